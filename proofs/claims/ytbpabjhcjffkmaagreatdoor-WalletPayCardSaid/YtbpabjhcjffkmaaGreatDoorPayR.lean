/- The reference's Payment: the walk. Conditions: named in each theorem. -/
import Derived.Test.YtbpabjhcjffkmaaGreatDoorPayQ
import Derived.Test.YtbpabjhcjffkmaaGreatDoorSigB
import Derived.Test.YtbpabjhcjffkmaaGreatDoorPickU
import Derived.Test.YtbpabjhcjffkmaaGreatDoorPickX
import Derived.OrdersHeld
import Derived.Deep.RegionHeld3
import Derived.Deep.MidRow
import Derived.Deep.CutRange
namespace Go.Proofs.YtbpabjhcjffkmaaGreatDoor
open Go.RowKit Go.ChangeShapes Go.WideShapes Go.ChangeAt

theorem money_code {a : Int} (h : ¬ moneyE a = 0) : moneyE a = 2 := by
 unfold moneyE at h ⊢
 split at h
 ·rename_i h9
  rw [if_pos h9]
 ·exact absurd rfl h
set_option maxHeartbeats 40000000 in
set_option maxRecDepth 100000 in
theorem payment_any (d : List Nat) (hd : d.length = 32) (hb : ∀ x ∈ d, x < 256) (n : Int) (cs : List RCoin) (A : Option Addr) (m c : Nat) (amt : Int) (rs : List ROp) (oA : Option Addr) (on oc : Nat) (fee : Int) (w : World) (h : CSl w w.heap.size A m cs) (hbt : ∀ r ∈ cs, ∀ x ∈ r.tx, x < 256) (ho : RSl w w.heap.size oA on rs) (hg : RoundsAt w) :
  Calls Tryz.prog 5 #[digV d, .int .i64 n, .slice A m c, .agg #[.int .i64 amt, .slice oA on oc], .int .i64 fee] w (PaidAs (payQ d n cs amt (rs.map ROp.pl) fee) (fun q => Value.int .i64 q) w) := by
 have B1 : Hid (Below w.heap.size w (((w.alloc (.cells (rowY d) 23)).alloc (.cells #[.int .i64 amt, .slice oA on oc] 27)).alloc (.cells #[.slice none 0 0, .slice none 0 0, .int .i64 0] 32))) := aside ((((Below.refl _ _).alloc (Nat.le_refl _) _).alloc (by simp) _).alloc (by simp; omega) _)
 have D0 : Hid (BlkY (((w.alloc (.cells (rowY d) 23)).alloc (.cells #[.int .i64 amt, .slice oA on oc] 27)).alloc (.cells #[.slice none 0 0, .slice none 0 0, .int .i64 0] 32)) w.heap.size 23 d) := aside (((BlkY.new w _ _).alloc _).alloc _)
 have D1 : Hid ((((w.alloc (.cells (rowY d) 23)).alloc (.cells #[.int .i64 amt, .slice oA on oc] 27)).alloc (.cells #[.slice none 0 0, .slice none 0 0, .int .i64 0] 32)).heap[w.heap.size + 1]? = some (.cells #[.int .i64 amt, .slice oA on oc] 27 (0, 0))) := aside (by
  have h := heap_alloc_new (w.alloc (.cells (rowY d) 23)) (.cells #[.int .i64 amt, .slice oA on oc] 27)
  rw [show (w.alloc (.cells (rowY d) 23)).heap.size = w.heap.size + 1 by simp] at h
  exact (Below.heap_alloc _ _ _ (by simp)).trans h)
 have D2 : Hid ((((w.alloc (.cells (rowY d) 23)).alloc (.cells #[.int .i64 amt, .slice oA on oc] 27)).alloc (.cells #[.slice none 0 0, .slice none 0 0, .int .i64 0] 32)).heap[w.heap.size + 1 + 1]? = some (.cells #[.slice none 0 0, .slice none 0 0, .int .i64 0] 32 (0, 0))) := aside (by
  have h := heap_alloc_new ((w.alloc (.cells (rowY d) 23)).alloc (.cells #[.int .i64 amt, .slice oA on oc] 27)) (.cells #[.slice none 0 0, .slice none 0 0, .int .i64 0] 32)
  rwa [show ((w.alloc (.cells (rowY d) 23)).alloc (.cells #[.int .i64 amt, .slice oA on oc] 27)).heap.size = w.heap.size + 1 + 1 by simp] at h)
 obtain ⟨R, hR⟩ : ∃ R, R = payQ d n cs amt (rs.map ROp.pl) fee := ⟨_, rfl⟩
 rw [← hR]
 have HR := aside hR
 have hl := h.len
 have HL := aside hl
 have HO := aside ho
 have H := aside h
 have HBt := aside hbt
 have HDl := aside hd
 have HDb := aside hb
 have HG := aside hg
 have HS7 := aside (zinfo d hd)
 clear hl ho hd hb hg h hbt hR
 unfold digV
 go_enter Tryz.func5, Tryz.ntmps5
 go_upto_region 1 with fail
 change Code.wp _ _ _ _ (((w.alloc (.cells (rowY d) 23)).alloc (.cells #[.int .i64 amt, .slice oA on oc] 27)).alloc (.cells #[.slice none 0 0, .slice none 0 0, .int .i64 0] 32))
 generalize (((w.alloc (.cells (rowY d) 23)).alloc (.cells #[.int .i64 amt, .slice oA on oc] 27)).alloc (.cells #[.slice none 0 0, .slice none 0 0, .int .i64 0] 32)) = w1 at B1 D0 D1 D2 ⊢
 obtain ⟨B0, hB0⟩ : ∃ B0, B0 = w.heap.size := ⟨_, rfl⟩
 have EB := aside hB0
 simp only [← hB0] at D0 D1 D2 ⊢
 clear hB0
 obtain ⟨b2, hb2⟩ : ∃ b2, b2 = B0 + 1 + 1 := ⟨_, rfl⟩
 simp only [← hb2] at D2 ⊢
 have Eb2 := aside hb2
 clear hb2
 obtain ⟨b1, hb1⟩ : ∃ b1, b1 = B0 + 1 := ⟨_, rfl⟩
 simp only [← hb1] at D1 ⊢
 have Eb1 := aside hb1
 clear hb1
 have HX : Hid (∀ W : World, Below w1.heap.size w1 W → BlkY W B0 23 d ∧ W.heap[b1]? = some (.cells #[.int .i64 amt, .slice oA on oc] 27 (0, 0)) ∧ W.heap[b2]? = some (.cells #[.slice none 0 0, .slice none 0 0, .int .i64 0] 32 (0, 0))) := aside fun W hW =>
  ⟨D0.out.below hW D0.out.lt, (hW.block _ (Array.getElem?_eq_some_iff.1 D1.out).1).trans D1.out, (hW.block _ (Array.getElem?_eq_some_iff.1 D2.out).1).trans D2.out⟩
 clear D0 D1 D2
 go_wp2_with fail
 refine (rkeys_any n cs A m c w1 (H.out.step B1.out) HBt.out).mono ?_
 rintro e w2 ⟨rfl, hb2⟩
 have HB2 := aside hb2
 clear hb2
 by_cases hq1 : chQ n cs = 0
 case neg =>
  have HP := aside (pay1 (amt := amt) (l := rs.map ROp.pl) (fee := fee) (d := d) hq1)
  generalize chQ n cs = q1 at hq1 HP
  have hqb : (q1 == 0) = false := by simp [hq1]
  have D2x : Hid (w2.heap[b2]? = some (.cells #[.slice none 0 0, .slice none 0 0, .int .i64 0] 32 (0, 0))) := aside ((HX.out w2 HB2.out).2.2)
  have HS9 : Hid ((Tryz.prog.info? 32).map (·.size) = some (#[.slice none 0 0, .slice none 0 0, .int .i64 0] : Array Value).size) := aside (by kernel_rfl)
  have HbX : Hid (Below w.heap.size w w2) := aside (B1.out.trans ((HB2.out).mono B1.out.size))
  have xc0 : w2.cell? ⟨b2, 0, none⟩ = some (.slice none 0 0) := by rw [cell_of_row _ _ 0 _ _ _ D2x.out]; rfl
  have xc1 : w2.cell? ⟨b2, 1, none⟩ = some (.slice none 0 0) := by rw [cell_of_row _ _ 1 _ _ _ D2x.out]; rfl
  have xc2 : w2.cell? ⟨b2, 2, none⟩ = some (.int .i64 0) := by rw [cell_of_row _ _ 2 _ _ _ D2x.out]; rfl
  have xf0 : w2.frozen? ⟨b2, 0, none⟩ = false := frozen_of_row _ _ _ _ _ D2x.out
  have xf1 : w2.frozen? ⟨b2, 1, none⟩ = false := frozen_of_row _ _ _ _ _ D2x.out
  have xf2 : w2.frozen? ⟨b2, 2, none⟩ = false := frozen_of_row _ _ _ _ _ D2x.out
  go_wp2_with fail
  (try simp only [Exit.inBlock, Exit.then])
  refine bodyPost_ret (results_cell_tmp rfl _ _ b2 32 #[.slice none 0 0, .slice none 0 0, .int .i64 0] (0, 0) _ rfl (set3 D2x.out _ _ _) Tryz.underlying32 rfl HS9.out) rfl ?_
  rw [HR.out, HP.out]
  exact paid_none (f := (fun q => Value.int .i64 q)) (below_set3 HbX.out (by rw [Eb2.out, EB.out]; omega) _ _ _)
 case pos =>
 rw [hq1]
 obtain ⟨hn1, hn2, hsQ, hm1⟩ := chQ_zero hq1
 have HQ1 := aside hq1
 have HsQ := aside hsQ
 have HCs := aside (coin_short H.out hsQ)
 have hmm : m ≤ 1000 := by have := HL.out; omega
 have D1x := (HX.out w2 HB2.out).2.1
 have y0 : w2.cell? ⟨b1, 0, none⟩ = some (.int .i64 amt) := by rw [cell_of_row _ _ 0 _ _ _ D1x]; rfl
 have y1 : w2.cell? ⟨b1, 1, none⟩ = some (.slice oA on oc) := by rw [cell_of_row _ _ 1 _ _ _ D1x]; rfl
 clear hq1 hsQ hm1 D1x
 go_wp2_with fail
 refine (Pk.rmoney_any amt w2).mono ?_
 rintro e w3 ⟨rfl, hw3⟩
 subst hw3
 by_cases hma : moneyE amt = 0
 case neg =>
  have hmc := money_code hma
  have hwq : (wantQ amt (rs.map ROp.pl) fee).2 = 2 := by unfold wantQ; rw [if_pos hma]; exact hmc
  have HP := aside (pay2 (d := d) HQ1.out (by rw [hwq]; omega))
  rw [hwq] at HP
  rw [show decide (Pk.moneyE amt = 0) = false from decide_eq_false hma]
  clear hma hmc hwq
  have D2x : Hid (w3.heap[b2]? = some (.cells #[.slice none 0 0, .slice none 0 0, .int .i64 0] 32 (0, 0))) := aside ((HX.out w3 HB2.out).2.2)
  have HS9 : Hid ((Tryz.prog.info? 32).map (·.size) = some (#[.slice none 0 0, .slice none 0 0, .int .i64 0] : Array Value).size) := aside (by kernel_rfl)
  have HbX : Hid (Below w.heap.size w w3) := aside (B1.out.trans ((HB2.out).mono B1.out.size))
  have xc0 : w3.cell? ⟨b2, 0, none⟩ = some (.slice none 0 0) := by rw [cell_of_row _ _ 0 _ _ _ D2x.out]; rfl
  have xc1 : w3.cell? ⟨b2, 1, none⟩ = some (.slice none 0 0) := by rw [cell_of_row _ _ 1 _ _ _ D2x.out]; rfl
  have xc2 : w3.cell? ⟨b2, 2, none⟩ = some (.int .i64 0) := by rw [cell_of_row _ _ 2 _ _ _ D2x.out]; rfl
  have xf0 : w3.frozen? ⟨b2, 0, none⟩ = false := frozen_of_row _ _ _ _ _ D2x.out
  have xf1 : w3.frozen? ⟨b2, 1, none⟩ = false := frozen_of_row _ _ _ _ _ D2x.out
  have xf2 : w3.frozen? ⟨b2, 2, none⟩ = false := frozen_of_row _ _ _ _ _ D2x.out
  go_wp2_with fail
  (try simp only [Exit.inBlock, Exit.then])
  refine bodyPost_ret (results_cell_tmp rfl _ _ b2 32 #[.slice none 0 0, .slice none 0 0, .int .i64 0] (0, 0) _ rfl (set3 D2x.out _ _ _) Tryz.underlying32 rfl HS9.out) rfl ?_
  rw [HR.out, HP.out]
  exact paid_none (f := (fun q => Value.int .i64 q)) (below_set3 HbX.out (by rw [Eb2.out, EB.out]; omega) _ _ _)
 case pos =>
 rw [show decide (Pk.moneyE amt = 0) = true from decide_eq_true hma]
 have HMa := aside hma
 have HLk := aside (rlk_any rs oA on oc w3 ((HO.out.below (B1.out.trans (HB2.out.mono B1.out.size))).more (B1.out.trans (HB2.out.mono B1.out.size)).size))
 clear hma
 go_wp2_with fail
 refine HLk.out.mono ?_
 rintro e w4 ⟨rfl, hb4⟩
 have HB4 : Hid (Below w1.heap.size w1 w4) := aside (HB2.out.trans (hb4.mono HB2.out.size))
 clear hb4 HLk y0 y1
 by_cases hlq : lkQ (rs.map ROp.pl) = 0
 case neg =>
  have hwq : (wantQ amt (rs.map ROp.pl) fee).2 = lkQ (rs.map ROp.pl) := by unfold wantQ; rw [if_neg (by simpa using HMa.out), if_pos hlq]
  have HP := aside (pay2 (d := d) HQ1.out (by rw [hwq]; exact hlq))
  rw [hwq] at HP
  generalize lkQ (rs.map ROp.pl) = q2 at hlq HP
  have hqb : (q2 == 0) = false := by simp [hlq]
  clear hwq
  have D2x : Hid (w4.heap[b2]? = some (.cells #[.slice none 0 0, .slice none 0 0, .int .i64 0] 32 (0, 0))) := aside ((HX.out w4 HB4.out).2.2)
  have HS9 : Hid ((Tryz.prog.info? 32).map (·.size) = some (#[.slice none 0 0, .slice none 0 0, .int .i64 0] : Array Value).size) := aside (by kernel_rfl)
  have HbX : Hid (Below w.heap.size w w4) := aside (B1.out.trans ((HB4.out).mono B1.out.size))
  have xc0 : w4.cell? ⟨b2, 0, none⟩ = some (.slice none 0 0) := by rw [cell_of_row _ _ 0 _ _ _ D2x.out]; rfl
  have xc1 : w4.cell? ⟨b2, 1, none⟩ = some (.slice none 0 0) := by rw [cell_of_row _ _ 1 _ _ _ D2x.out]; rfl
  have xc2 : w4.cell? ⟨b2, 2, none⟩ = some (.int .i64 0) := by rw [cell_of_row _ _ 2 _ _ _ D2x.out]; rfl
  have xf0 : w4.frozen? ⟨b2, 0, none⟩ = false := frozen_of_row _ _ _ _ _ D2x.out
  have xf1 : w4.frozen? ⟨b2, 1, none⟩ = false := frozen_of_row _ _ _ _ _ D2x.out
  have xf2 : w4.frozen? ⟨b2, 2, none⟩ = false := frozen_of_row _ _ _ _ _ D2x.out
  go_wp2_with fail
  (try simp only [Exit.inBlock, Exit.then])
  refine bodyPost_ret (results_cell_tmp rfl _ _ b2 32 #[.slice none 0 0, .slice none 0 0, .int .i64 0] (0, 0) _ rfl (set3 D2x.out _ _ _) Tryz.underlying32 rfl HS9.out) rfl ?_
  rw [HR.out, HP.out]
  exact paid_none (f := (fun q => Value.int .i64 q)) (below_set3 HbX.out (by rw [Eb2.out, EB.out]; omega) _ _ _)
 case pos =>
 rw [hlq]
 have HLq := aside hlq
 have hwq : wantQ amt (rs.map ROp.pl) fee = addN [amt, fee] 0 := by unfold wantQ; rw [if_neg (by simpa using HMa.out), if_neg (by simpa using hlq)]
 have HWq := aside hwq
 have D1x := (HX.out w4 HB4.out).2.1
 have BA : Hid (Below w4.heap.size w4 (w4.alloc (.cells #[.int .i64 amt, .int .i64 fee] 3))) := aside ((Below.refl _ _).alloc (Nat.le_refl _) _)
 have y0 : w4.cell? ⟨b1, 0, none⟩ = some (.int .i64 amt) := by rw [cell_of_row _ _ 0 _ _ _ D1x]; rfl
 have HTo := aside (rtotal_any [amt, fee] (some ⟨w4.heap.size, 0, none⟩) 2 2 (w4.alloc (.cells #[.int .i64 amt, .int .i64 fee] 3)) ⟨rfl, fun _ => ⟨w4.heap.size, 0, rfl, by simp, fun i u hu => by
  rw [cell_of_row _ _ _ _ _ _ (heap_alloc_new w4 _), Nat.zero_add, List.getElem?_toArray]
  exact hu⟩⟩ (by omega))
 clear hlq hwq D1x
 go_wp2_with fail
 refine HTo.out.mono ?_
 rintro e w5 ⟨rfl, hb5⟩
 have HB5 : Hid (Below w1.heap.size w1 w5) := aside (HB4.out.trans ((BA.out.trans (hb5.mono BA.out.size)).mono HB4.out.size))
 clear hb5 HTo y0 BA
 by_cases hq3 : (addN [amt, fee] 0).2 = 0
 case neg =>
  have HP := aside (pay2 (d := d) HQ1.out (by rw [HWq.out]; exact hq3))
  rw [HWq.out] at HP
  generalize (addN [amt, fee] 0).2 = q3 at hq3 HP
  have hqb : (q3 == 0) = false := by simp [hq3]
  have D2x : Hid (w5.heap[b2]? = some (.cells #[.slice none 0 0, .slice none 0 0, .int .i64 0] 32 (0, 0))) := aside ((HX.out w5 HB5.out).2.2)
  have HS9 : Hid ((Tryz.prog.info? 32).map (·.size) = some (#[.slice none 0 0, .slice none 0 0, .int .i64 0] : Array Value).size) := aside (by kernel_rfl)
  have HbX : Hid (Below w.heap.size w w5) := aside (B1.out.trans ((HB5.out).mono B1.out.size))
  have xc0 : w5.cell? ⟨b2, 0, none⟩ = some (.slice none 0 0) := by rw [cell_of_row _ _ 0 _ _ _ D2x.out]; rfl
  have xc1 : w5.cell? ⟨b2, 1, none⟩ = some (.slice none 0 0) := by rw [cell_of_row _ _ 1 _ _ _ D2x.out]; rfl
  have xc2 : w5.cell? ⟨b2, 2, none⟩ = some (.int .i64 0) := by rw [cell_of_row _ _ 2 _ _ _ D2x.out]; rfl
  have xf0 : w5.frozen? ⟨b2, 0, none⟩ = false := frozen_of_row _ _ _ _ _ D2x.out
  have xf1 : w5.frozen? ⟨b2, 1, none⟩ = false := frozen_of_row _ _ _ _ _ D2x.out
  have xf2 : w5.frozen? ⟨b2, 2, none⟩ = false := frozen_of_row _ _ _ _ _ D2x.out
  go_wp2_with fail
  (try simp only [Exit.inBlock, Exit.then])
  refine bodyPost_ret (results_cell_tmp rfl _ _ b2 32 #[.slice none 0 0, .slice none 0 0, .int .i64 0] (0, 0) _ rfl (set3 D2x.out _ _ _) Tryz.underlying32 rfl HS9.out) rfl ?_
  rw [HR.out, HP.out]
  exact paid_none (f := (fun q => Value.int .i64 q)) (below_set3 HbX.out (by rw [Eb2.out, EB.out]; omega) _ _ _)
 case pos =>
 rw [hq3]
 obtain ⟨want, hwant⟩ : ∃ want, want = (addN [amt, fee] 0).1 := ⟨_, rfl⟩
 rw [← hwant]
 have HW2 : Hid ((wantQ amt (rs.map ROp.pl) fee).2 = 0) := aside (by rw [HWq.out]; exact hq3)
 have HW1 : Hid ((wantQ amt (rs.map ROp.pl) fee).1 = want) := aside (by rw [HWq.out, hwant])
 clear hq3 hwant HWq HB4 HB2
 have HBw5 : Hid (Below w.heap.size w w5) := aside (B1.out.trans (HB5.out.mono B1.out.size))
 have D0x := aside (HX.out w5 HB5.out).1
 have hb25 : b2 < w5.heap.size := (Array.getElem?_eq_some_iff.1 (HX.out w5 HB5.out).2.2).1
 go_wp2_with (first
  | (refine wpList_load_row rfl 23 (.tmp 5) rfl B0 rfl 23 (rowY d) (0, 0) _ D0x.out Tryz.underlying23 rfl HS7.out ?_)
  | fail)
 refine (show Calls _ _ #[digV d, _] _ _ from qlocksD_any d HDl.out HDb.out n hn2 w5 (HG.out.below HBw5.out)).mono ?_
 rintro e w6 ⟨A1, c1, ls, hNc, rfl, hls, hlr, hlp, hb6⟩
 have HLs := aside hls
 have HLd : Hid (∀ l ∈ ls, RDep w6 w5.heap.size l.1 2 l.2) := aside hlr
 have HLr : Hid (∀ l ∈ ls, RSl w6 w6.heap.size l.1 2 l.2) := aside (fun l hl => hlr l hl w6 (fun _ _ _ => rfl) (Nat.le_refl _))
 have HLp := aside hlp
 have HB6 : Hid (Below w1.heap.size w1 w6) := aside (HB5.out.trans (hb6.mono HB5.out.size))
 have HBw6 : Hid (Below w.heap.size w w6) := aside (B1.out.trans (HB6.out.mono B1.out.size))
 obtain ⟨N, hN⟩ : ∃ N, N = n.toNat := ⟨_, rfl⟩
 have HN := aside hN
 rw [← hN] at HLs HLp hNc ⊢
 have hN0 : 0 < N := by omega
 have hN1 : N ≤ 100 := by omega
 have hLq : ∀ l ∈ ls, lkQ (l.2.map ROp.pl) = 0 := fun l hl => by
  have h9 : l.2.map ROp.pl ∈ ls.map lkP := List.mem_map_of_mem (f := lkP) hl
  rw [HLp.out] at h9
  obtain ⟨i9, -, h9⟩ := List.mem_map.1 h9
  rw [← h9]
  exact lock_ok d i9
 have HLq9 := aside hLq
 have HLsh : Hid (∀ l ∈ ls, ∀ r ∈ l.2, r.dn ≤ 1000) := aside (fun l hl r hr => by have := (lock_short2 (HLr.out l hl) (hLq l hl)).2 r hr; omega)
 have HB56 := aside hb6
 clear hls hlr hlp hb6 D0x hN hLq HBw5
 have HOw := aside (qownM_any ls cs A1 A N c1 m c hN1 hmm w6 HLs.out HLr.out HLsh.out ((H.out.below HBw6.out).more HBw6.out.size))
 go_wp2_with fail
 refine HOw.out.mono ?_
 rintro e w7 ⟨A2, m2, c2, hm2, hmc2, rfl, hcq, hb7⟩
 obtain ⟨qs, hqs⟩ : ∃ qs, qs = cs.filter (keepC (ls.map lkP)) := ⟨_, rfl⟩
 rw [← hqs] at hcq
 have HCq := aside hcq
 have HLs7 : Hid (Sl w7 w7.heap.size 1 A1 N (ls.map lkV)) := aside ((Sl.below HLs.out hb7).more hb7.size)
 have HLr7 : Hid (∀ l ∈ ls, RSl w7 w7.heap.size l.1 2 l.2) := aside (fun l hl => ((HLr.out l hl).below hb7).more hb7.size)
 have HB7 : Hid (Below w1.heap.size w1 w7) := aside (HB6.out.trans (hb7.mono HB6.out.size))
 have HBw7 : Hid (Below w.heap.size w w7) := aside (B1.out.trans (HB7.out.mono B1.out.size))
 have HB67 := aside hb7
 clear hcq hb7 HOw HLs HLr HB6 HBw6
 obtain ⟨K, hK⟩ : ∃ K : Nat, K = min m2 30 := ⟨_, rfl⟩
 have hK30 : K ≤ 30 := by omega
 obtain ⟨ms, hms⟩ : ∃ ms, ms = qs.take 30 := ⟨_, rfl⟩
 have hmk : ms = qs.take K := by
  have hq := HCq.out.len
  rcases Nat.lt_or_ge 30 m2 with h9 | h9
  ·rw [hms, hK, Nat.min_eq_right (by omega)]
  ·rw [hms, hK, Nat.min_eq_left (by omega), List.take_of_length_le (by omega), List.take_of_length_le (by omega)]
 have HCm : Hid (CSl w7 w7.heap.size A2 K ms) := aside (by rw [hmk]; exact HCq.out.take (by omega))
 have HMk : Hid (ms.map RCoin.key = ((cs.filter (keepC ((List.range n.toNat).map (lockL d)))).map RCoin.key).take 30) := aside (by rw [hms, List.map_take, hqs, HLp.out, HN.out])
 have HMs : Hid (MineOk ((List.range n.toNat).map (lockL d)) ms) := aside (by
  rw [hms]
  refine mine_ok HsQ.out H.out.tx HBt.out ?_
  rw [hqs, HLp.out, HN.out])
 have HK := aside hK
 clear hmk hms hm2 HCq hqs hK
 go_upto_if 63 with fail
 go_cut [15] from 61 to 65 (fun v15 wx => v15 = .slice A2 K c2 ∧ wx = w7)
 case first =>
  by_cases h30 : 30 < m2
  ·have hK2 : K = 30 := by have := HK.out; omega
   have g0 : (30 : Int) < (m2 : Int) := by omega
   have gb : decide ((30 : Int) < (m2 : Int)) = true := decide_eq_true g0
   have sb1 : (30 : Int) ≤ (c2 : Int) := by omega
   subst hK2
   go_wp2_with fail
   go_meet
   exact ⟨rfl, rfl⟩
  ·have hK2 : K = m2 := by have := HK.out; omega
   have g0 : ¬ (30 : Int) < (m2 : Int) := by omega
   have gb : decide ((30 : Int) < (m2 : Int)) = false := decide_eq_false g0
   subst hK2
   go_wp2_with fail
   go_meet
   exact ⟨rfl, rfl⟩
 case rest =>
  obtain ⟨rfl, rfl⟩ := hcut
  clear hmc2
  have hmsl := HCm.out.len
  have HMl := aside hmsl
  clear hmsl
  obtain ⟨ns, hns⟩ : ∃ ns : List Int, ns = ms.map (·.amt) := ⟨_, rfl⟩
  have HNs := aside hns
  have hnsl : ns.length = K := by rw [hns, List.length_map]; exact HMl.out
  have HNl := aside hnsl
  clear hns hnsl
  go_wp2_with fail
  have HOn0 : Hid (Pk.OwnZ wc wc.heap.size (.slice none 0 0) 0 (ns.take 0)) := aside (Pk.ownZ_nil _ _)
  have HB50 := aside (Below.refl wc.heap.size wc)
  go_loopw [16, 17] (fun v16 v17 wr => ∃ (k : Nat) (I : Option Addr) (kc : Nat), k ≤ K ∧ v17 = .int .i64 k ∧ v16 = .slice I k kc ∧ Hid (Pk.OwnZ wr wc.heap.size (.slice I k kc) k (ns.take k)) ∧ Hid (Below wc.heap.size wc wr)) (fun _ v17 _ => K - (Go.RowKit.intOf v17).toNat)
  case atStart => exact ⟨0, none, 0, Nat.zero_le _, rfl, rfl, HOn0, HB50⟩
  case round =>
   clear HOn0 HB50
   obtain ⟨k, I, kc, hk, rfl, rfl, HOn, HB⟩ := hrel
   by_cases hkn : k < K
   ·have k0 : (k : Int) < (K : Int) := by omega
    have hwz := HB.out.size
    obtain ⟨b, of, hAe, hb1x, hrg⟩ := HCm.out.at_ hkn
    have htk : ns.take (k + 1) = ns.take k ++ [(ms.getD k noC).amt] := by
     have e9 : ns.getD k 0 = (ms.getD k noC).amt := by
      rw [HNs.out]
      exact map_getD (fun r : RCoin => r.amt) noC 0 (by have := HMl.out; omega)
     rw [take_getD 0 (by have := HNl.out; omega), e9]
    generalize ms.getD k noC = r at *
    have HTk := aside htk
    have y0 : wr.cell? ⟨b, of + k * 36 + 33, none⟩ = some (.int .i64 r.amt) := (HB.out.cell (p := ⟨b, of + k * 36 + 33, none⟩) hb1x).trans (hrg 33 _ (encC_at r 1))
    subst hAe
    clear hrg hb1x htk
    go_wp2_with (first
     | (at_builtin; refine wpList_push rfl (.tmp 72) (.tmp 79) 50 rfl wc.heap.size _ 1 8 Tryz.underlying50 intInfo rfl (by decide) (.slice I k kc) k _ rfl rfl rfl rfl HOn.out (by omega) (by unfold maxLen; omega) hwz ?_; intro A3 c3 w9 hc3 hc3' hown3 hb3 hz3 hg3)
     | fail)
    have HOn3 : Hid (Pk.OwnZ w9 wc.heap.size (.slice A3 (k + 1) c3) (k + 1) (ns.take (k + 1))) := aside (by rw [HTk.out]; show w9.ownsRow _ _ _ _ _ _; rw [List.map_append]; exact hown3)
    have HB3 : Hid (Below wc.heap.size wc w9) := aside (HB.out.trans hb3)
    clear hown3 hb3 hg3
    exact ⟨⟨k + 1, A3, c3, by omega, by go_num, rfl, HOn3, HB3⟩, by simp [Go.RowKit.intOf]; omega⟩
   ·obtain rfl : K = k := by omega
    have i0 : ((K : Int) < (K : Int)) = False := by simp
    have HIs : Hid (ISl wr wr.heap.size I K ns) := aside (by
     have h9 := Pk.ownZ_isl HOn.out
     rwa [List.take_of_length_le (Nat.le_of_eq HNl.out)] at h9)
    clear HOn hkn
    have HBw : Hid (Below w1.heap.size w1 wr) := aside (HB7.out.trans (HB.out.mono HB7.out.size))
    have HPf := aside (Pk.rfault_any ns I K kc want wr HIs.out)
    go_wp2_with fail
    refine HPf.out.mono ?_
    rintro e w8 ⟨rfl, hw8⟩
    subst hw8
    by_cases hpq : Pk.pickQ ns want = 0
    case neg =>
     have HP : Hid (payQ d n cs amt (rs.map ROp.pl) fee = (Pk.pickQ ns want, [], [])) := aside (by
      have h9 := pay3 (d := d) HQ1.out HW2.out HMk.out (by rw [← HNs.out, HW1.out]; exact hpq)
      rwa [← HNs.out, HW1.out] at h9)
     clear HPf
     generalize Pk.pickQ ns want = q3 at hpq HP
     have hqb : (q3 == 0) = false := by simp [hpq]
     have D2x : Hid (w8.heap[b2]? = some (.cells #[.slice none 0 0, .slice none 0 0, .int .i64 0] 32 (0, 0))) := aside ((HX.out w8 HBw.out).2.2)
     have HS9 : Hid ((Tryz.prog.info? 32).map (·.size) = some (#[.slice none 0 0, .slice none 0 0, .int .i64 0] : Array Value).size) := aside (by kernel_rfl)
     have HbX : Hid (Below w.heap.size w w8) := aside (B1.out.trans ((HBw.out).mono B1.out.size))
     have xc0 : w8.cell? ⟨b2, 0, none⟩ = some (.slice none 0 0) := by rw [cell_of_row _ _ 0 _ _ _ D2x.out]; rfl
     have xc1 : w8.cell? ⟨b2, 1, none⟩ = some (.slice none 0 0) := by rw [cell_of_row _ _ 1 _ _ _ D2x.out]; rfl
     have xc2 : w8.cell? ⟨b2, 2, none⟩ = some (.int .i64 0) := by rw [cell_of_row _ _ 2 _ _ _ D2x.out]; rfl
     have xf0 : w8.frozen? ⟨b2, 0, none⟩ = false := frozen_of_row _ _ _ _ _ D2x.out
     have xf1 : w8.frozen? ⟨b2, 1, none⟩ = false := frozen_of_row _ _ _ _ _ D2x.out
     have xf2 : w8.frozen? ⟨b2, 2, none⟩ = false := frozen_of_row _ _ _ _ _ D2x.out
     go_wp2_with fail
     (try simp only [Exit.inBlock, Exit.then])
     refine bodyPost_ret (results_cell_tmp rfl _ _ b2 32 #[.slice none 0 0, .slice none 0 0, .int .i64 0] (0, 0) _ rfl (set3 D2x.out _ _ _) Tryz.underlying32 rfl HS9.out) rfl ?_
     rw [HR.out, HP.out]
     exact paid_none (f := (fun q => Value.int .i64 q)) (below_set3 HbX.out (by rw [Eb2.out, EB.out]; omega) _ _ _)
    case pos =>
    rw [hpq]
    have HPq := aside hpq
    have HFw := aside (theP_few HNl.out hpq)
    have HLf := aside (left_in HNl.out hpq)
    obtain ⟨o, ho9⟩ : ∃ o, o = (Pk.order_ex (Pk.atZ ns) ns.length).choose := ⟨_, rfl⟩
    have ho8 := (Pk.order_ex (Pk.atZ ns) ns.length).choose_spec
    rw [← ho9] at ho8
    have hol : o.Perm (Pk.rangeZ K) := by rw [← HNl.out]; exact ho8.1
    have hok : ∀ x ∈ o, Pk.OkZ K x := fun x hx => Pk.rangeZ_mem.1 (hol.mem_iff.1 hx)
    have hz9 := Pk.pickQ_zero hpq
    have HGr := aside (Pk.greatest_any ns I K kc hK30 w8 HIs.out o hol ho8.2)
    have HOd : Hid o.Nodup := aside (hol.nodup_iff.2 (Pk.rise_nodup (Pk.rangeZ_rise _)))
    have HOs := aside ho8.2
    have HOp := aside ho8.1
    have HOk := aside hok
    have HZ9 := aside hz9
    clear hpq HPf ho9 ho8 hol hok hz9
    go_wp2_with fail
    refine HGr.out.mono ?_
    rintro e w9 ⟨A9, c9, rfl, hoz, hb9⟩
    have HTi := aside (Pk.rtill_any ns I K kc want o A9 K c9 (by omega) (by omega) HZ9.out.2.1 ⟨HZ9.out.2.2.1, HZ9.out.2.2.2.1⟩ HOk.out HOd.out w9 ((Sl.below HIs.out hb9).more hb9.size) (Pk.ownZ_isl hoz))
    have HB89 := aside hb9
    clear hoz hb9 HGr
    go_wp2_with fail
    refine HTi.out.mono ?_
    rintro e wt ⟨A6, c6, p, rfl, hp, hpe, hbt9⟩
    have hpt := great_is hpe HOp.out HOs.out
    have HPt := aside hpt
    rw [← hpt] at HFw
    have HOne : Hid p.Nodup := aside (by rw [hpt]; exact theP_one)
    have HPl6 := aside hp
    have B8t : Hid (Below w8.heap.size w8 wt) := aside (HB89.out.trans (hbt9.mono HB89.out.size))
    have HIs6 : Hid (ISl wt wt.heap.size I K ns) := aside ((Sl.below HIs.out B8t.out).more B8t.out.size)
    have B7t : Hid (Below wc.heap.size wc wt) := aside (HB.out.trans (B8t.out.mono HB.out.size))
    have HCm6 : Hid (CSl wt wt.heap.size A2 K ms) := aside (HCm.out.step B7t.out)
    have HLs6 : Hid (Sl wt wt.heap.size 1 A1 N (ls.map lkV)) := aside ((Sl.below HLs7.out B7t.out).more B7t.out.size)
    have HLr6 : Hid (∀ l ∈ ls, RSl wt wt.heap.size l.1 2 l.2) := aside (fun l hl => (HLr7.out l hl).step B7t.out)
    have B6t : Hid (Below w6.heap.size w6 wt) := aside (HB67.out.trans (B7t.out.mono HB67.out.size))
    have HBwt : Hid (Below w.heap.size w wt) := aside (HBw7.out.trans (B7t.out.mono HBw7.out.size))
    have HBt1 : Hid (Below w1.heap.size w1 wt) := aside (HB7.out.trans (B7t.out.mono HB7.out.size))
    have HCo6 : Hid (CSl wt wt.heap.size A m cs) := aside (H.out.step HBwt.out)
    have HG6 : Hid (RoundsAt wt) := aside (HG.out.below HBwt.out)
    have HX6 : Hid (∀ W : World, Below wt.heap.size wt W → BlkY W B0 23 d ∧ W.heap[b1]? = some (.cells #[.int .i64 amt, .slice oA on oc] 27 (0, 0)) ∧ W.heap[b2]? = some (.cells #[.slice none 0 0, .slice none 0 0, .int .i64 0] 32 (0, 0))) := aside (fun W hW => HX.out W (HBt1.out.trans (hW.mono HBt1.out.size)))
    clear hp hpe hpt hbt9 HTi HB89 HIs HB HBw HBw7 HLs7 HLr7 HCm B7t B8t HX HBt1 H HG HOp HOs HOd HOk HZ9
    have D1t := (HX6.out wt (Below.refl _ _)).2.1
    have y0 : wt.cell? ⟨b1, 0, none⟩ = some (.int .i64 amt) := by rw [cell_of_row _ _ 0 _ _ _ D1t]; rfl
    have y1 : wt.cell? ⟨b1, 1, none⟩ = some (.slice oA on oc) := by rw [cell_of_row _ _ 1 _ _ _ D1t]; rfl
    clear D1t
    go_upto_region 25 with fail
    have hlow : b2 < wt.heap.size := (Array.getElem?_eq_some_iff.1 (HX6.out wt (Below.refl _ _)).2.2).1
    have HTn : Hid (TxNew wt ((wt.alloc (.cells #[.int .i64 amt, .slice oA on oc] 27)).alloc (.cells #[.slice none 0 0, .slice (some ⟨wt.heap.size, 0, none⟩) 1 1, .int .i64 0] 32)) b2 (wt.heap.size + 1) wt.heap.size amt oA on oc rs) := aside (TxNew.d hlow HO.out HBwt.out (by rw [Eb2.out, EB.out]; omega))
    clear y0 y1
    change Code.wp _ _ _ _ ((wt.alloc (.cells #[.int .i64 amt, .slice oA on oc] 27)).alloc (.cells #[.slice none 0 0, .slice (some ⟨wt.heap.size, 0, none⟩) 1 1, .int .i64 0] 32))
    generalize ((wt.alloc (.cells #[.int .i64 amt, .slice oA on oc] 27)).alloc (.cells #[.slice none 0 0, .slice (some ⟨wt.heap.size, 0, none⟩) 1 1, .int .i64 0] 32)) = wn at HTn ⊢
    obtain ⟨tb, htb⟩ : ∃ tb, tb = wt.heap.size + 1 := ⟨_, rfl⟩
    rw [← htb] at HTn ⊢
    obtain ⟨ob, hob⟩ : ∃ ob, ob = wt.heap.size := ⟨_, rfl⟩
    have HTn : Hid (TxNew wt wn b2 tb ob amt oA on oc rs) := by rw [hob]; exact HTn
    clear htb hob
    have HB8 : Hid (Below wt.heap.size wt wn) := aside HTn.out.below
    have hwt := Pk.pickQ_zero HPq.out
    have hw0 : 0 ≤ want := hwt.2.2.1
    have hw1 : want ≤ 1125899906842624 := hwt.2.2.2.1
    clear hwt
    have htb6 : wt.heap.size ≤ tb := HTn.out.lo.1
    have htb8 : tb < wn.heap.size := (Array.getElem?_eq_some_iff.1 HTn.out.tx).1
    have HIn0 : Hid (InsAt wt wn wn tb none 0 0 (.slice (some ⟨ob, 0, none⟩) 1 1) (insP ms (p.take 0))) := aside (InsAt.start HTn.out.tx HTn.out.below)
    have hpl30 : p.length ≤ 30 := Nat.le_trans HFw.out.len hK30
    go_wp2_with fail
    go_loopw [20] (fun v20 wr => ∃ (k : Nat) (J : Option Addr) (jc : Nat), k ≤ p.length ∧ v20 = .int .i64 k ∧ Hid (InsAt wt wn wr tb J k jc (.slice (some ⟨ob, 0, none⟩) 1 1) (insP ms (p.take k)))) (fun v20 _ => p.length - (Go.RowKit.intOf v20).toNat)
    case atStart => exact ⟨0, none, 0, Nat.zero_le _, rfl, HIn0⟩
    case round =>
     clear HIn0
     obtain ⟨k, J, jc, hk, rfl, HIn⟩ := hrel
     by_cases hkn : k < p.length
     ·have k0 : (k : Int) < (p.length : Int) := by omega
      obtain ⟨z, hz⟩ : ∃ z, z = nth p k := ⟨_, rfl⟩
      have hok := HFw.out.ok _ (nth_mem hkn)
      rw [← hz] at hok
      have hzi : z = ((z.toNat : Nat) : Int) := by have := hok.1; omega
      obtain ⟨i, hi⟩ : ∃ i, i = z.toNat := ⟨_, rfl⟩
      rw [← hi] at hzi
      have hiK : i < K := by have := hok.2; omega
      have HB := aside HIn.out.bl
      have hwz := HB.out.size
      obtain ⟨pb, po, hAp, hpb, hpc6⟩ := ISl.at_ HPl6.out hkn
      obtain ⟨mb, mo, hAm, hmb, hrg⟩ := HCm6.out.at_ hiK
      have hnx : insP ms (p.take (k + 1)) = insP ms (p.take k) ++ [inOf (ms.getD i noC)] := by
       rw [insP_next hkn]
       show _ ++ [inOf (ms.getD (nth p k).toNat noC)] = _
       rw [← hz, ← hi]
      rw [← hz, hzi] at hpc6
      generalize ms.getD i noC = r at *
      have HNx := aside hnx
      have HRg := aside (range_place hrg)
      have i0 : (0 : Int) ≤ (i : Int) := by omega
      have i1 : (i : Int) < (K : Int) := by omega
      have kz0 : (0 : Int) ≤ (k : Int) := by omega
      have x0 : wr.cell? ⟨tb, 0, none⟩ = some (.slice J k jc) := HIn.out.cell.1
      have HPc := aside hpc6
      subst hAp hAm
      clear hrg hnx hz hi hzi hok hpc6
      go_upto_region 28 with fail
      have HInD : Hid (InsAt wt wn (wr.drewN 1) tb J k jc (.slice (some ⟨ob, 0, none⟩) 1 1) (insP ms (p.take k))) := aside (HIn.out.call (below_drawn (Below.refl _ _) 1))
      have HE1 : Hid ((encIn (inOf r)).toArray.toList.all (fun u => u.oneCell') = true) := aside (List.all_eq_true.2 (encIn_one (inOf r)))
      have HE2 : Hid ((encIn (inOf r)).toArray.size = 34) := aside (by simp only [List.size_toArray, encIn_len])
      have hz8 : wn.heap.size ≤ (wr.drewN 1).heap.size := HIn.out.kp.2
      refine wp_region_held_drew (S := (fun w' => Below wt.heap.size wt w')) (by kernel_rfl) (below_drawn HB.out 1) (fun hS => ?_)
      refine tkH (i := 0) (v := ?_) rfl (by kernel_rfl) (fun _ _ _ h => h) (Or.inl ⟨by rfl, ?_⟩) hS ?_
      rotate_left
      ·(intro W hSw; (try dsimp only at hSw); go_simp; try with_reducible rfl)
      (repeat (first | simp only [q1] | simp only [q2] | simp only [q3] | simp only [Act.put] | simp only [q4] | simp only [q5] | simp only [q6]))
      refine tkH (i := 2) (v := ?_) rfl (by kernel_rfl) (fun _ _ _ h => h) (Or.inl ⟨by rfl, ?_⟩) hS ?_
      rotate_left
      ·(intro W hSw; (try dsimp only at hSw); go_simp; try with_reducible rfl)
      (repeat (first | simp only [q1] | simp only [q2] | simp only [q3] | simp only [Act.put] | simp only [q4] | simp only [q5] | simp only [q6]))
      refine tkH (i := 3) (v := ?_) rfl (by kernel_rfl) (fun _ _ _ h => h) (Or.inl ⟨by rfl, ?_⟩) hS ?_
      rotate_left
      ·(intro W hSw; (try dsimp only at hSw); go_simp; try with_reducible rfl)
      (repeat (first | simp only [q1] | simp only [q2] | simp only [q3] | simp only [Act.put] | simp only [q4] | simp only [q5] | simp only [q6]))
      refine tkH (i := 4) (v := ?_) rfl (by kernel_rfl) (fun _ _ _ h => h) (Or.inl ⟨by rfl, ?_⟩) hS ?_
      rotate_left
      ·(intro W hSw; (try dsimp only at hSw); go_simp; try with_reducible rfl)
      (repeat (first | simp only [q1] | simp only [q2] | simp only [q3] | simp only [Act.put] | simp only [q4] | simp only [q5] | simp only [q6]))
      refine tkH (i := 5) (v := ?_) rfl (by kernel_rfl) (fun _ _ _ h => h) (Or.inl ⟨by rfl, ?_⟩) hS ?_
      rotate_left
      ·(intro W hSw; (try dsimp only at hSw); go_simp; try with_reducible rfl)
      (repeat (first | simp only [q1] | simp only [q2] | simp only [q3] | simp only [Act.put] | simp only [q4] | simp only [q5] | simp only [q6]))
      refine tkH (i := 6) (v := ?_) rfl (by kernel_rfl) (fun _ _ _ h => h) (Or.inl ⟨by rfl, ?_⟩) hS ?_
      rotate_left
      ·(intro W hSw; (try dsimp only at hSw); have hx9 : W.cell? ⟨pb, po + k, none⟩ = some (.int .i64 (i : Int)) := (hSw.cell (p := ⟨pb, po + k, none⟩) hpb).trans HPc.out; go_simp; try with_reducible rfl)
      (repeat (first | simp only [q1] | simp only [q2] | simp only [q3] | simp only [Act.put] | simp only [q4] | simp only [q5] | simp only [q6]))
      refine tkH (i := 7) (v := ?_) rfl (by kernel_rfl) (fun _ _ _ h => h) (Or.inl ⟨by rfl, ?_⟩) hS ?_
      rotate_left
      ·(intro W hSw; (try dsimp only at hSw); go_simp; try with_reducible rfl)
      (repeat (first | simp only [q1] | simp only [q2] | simp only [q3] | simp only [Act.put] | simp only [q4] | simp only [q5] | simp only [q6]))
      refine tkH (i := 8) (v := ?_) rfl (by kernel_rfl) (fun _ _ _ h => h) (Or.inl ⟨by rfl, ?_⟩) hS ?_
      rotate_left
      ·(intro W hSw; (try dsimp only at hSw); go_simp; try with_reducible rfl)
      (repeat (first | simp only [q1] | simp only [q2] | simp only [q3] | simp only [Act.put] | simp only [q4] | simp only [q5] | simp only [q6]))
      refine tkH (i := 9) (v := _) rfl (by kernel_rfl) (fun _ _ _ h => h) (yieldsIf_load_mid (by rfl) _ _ rfl mb (mo + i * 36) rfl (plC r.tx r.at_) _ (fun W hW => range_below HRg.out hW hmb) Tryz.underlying55 rfl (by rw [plC_len]; exact placeInfo)) hS ?_
      (repeat (first | simp only [q1] | simp only [q2] | simp only [q3] | simp only [Act.put] | simp only [q4] | simp only [q5] | simp only [q6]))
      refine tkH (i := 10) (v := _) rfl (by kernel_rfl) (fun _ _ _ h => h) (yields_in (by rfl) _ rfl r rfl) hS ?_
      (repeat (first | simp only [q1] | simp only [q2] | simp only [q3] | simp only [Act.put] | simp only [q4] | simp only [q5] | simp only [q6]))
      refine wpAnyH_all (rs := [1, 11]) (by kernel_rfl) (by simp) ?_
      intro m9 hm9
      simp only [List.mem_cons, List.not_mem_nil, or_false] at hm9
      rcases hm9 with rfl | rfl
      ·refine wpOp_of_list rfl ?_
       (repeat (first | simp only [q1] | simp only [q2] | simp only [q3]))
       go_wp2_with fail
       change _ ∧ _
       refine ⟨hS, ?_⟩
       (try dsimp only)
       (repeat (first | simp only [q1] | simp only [q2] | simp only [q3] | simp only [Act.put] | simp only [q4] | simp only [q5] | simp only [q6]))
       refine oneL (i := 11) (by kernel_rfl) rfl ?_
       (repeat (first | simp only [q1] | simp only [q2] | simp only [q3]))
       go_wp2_with (first
        | (refine wpList_in rfl (.tmp 112) rfl (encIn (inOf r)) rfl (encIn_len _) ?_)
        | fail)
       change _ ∧ _
       refine ⟨hS.alloc (HB.out.size) _, ?_⟩
       (try dsimp only)
       (repeat (first | simp only [q1] | simp only [q2] | simp only [q3] | simp only [Act.put] | simp only [q4] | simp only [q5] | simp only [q6]))
       refine oneL (i := 12) (by kernel_rfl) rfl ?_
       (repeat (first | simp only [q1] | simp only [q2] | simp only [q3]))
       go_wp2_with (first
        | (at_builtin; refine wpList_push rfl (.tmp 103) (.tmp 113) 29 rfl wn.heap.size _ 34 64 Tryz.underlying29 infoIn (by kernel_rfl) (by decide) (.slice J k jc) k _ rfl rfl HE2.out HE1.out HInD.out.row (by omega) (by unfold maxLen; omega) hz8 ?_; intro A9 c9 w9 hc9 hc9' hown9 hb9 hz9 hg9)
        | fail)
       have HOw9 := aside hown9
       have HB9 := aside hb9
       have HT9 := aside ((hb9.block tb htb8).trans HInD.out.tx)
       have HS9 : Hid (Below wt.heap.size wt w9) := aside (HInD.out.bl.trans (hb9.mono HB8.out.size))
       clear hown9 hb9 hg9
       change _ ∧ _
       refine ⟨HS9.out, ?_⟩
       (try dsimp only)
       (repeat (first | simp only [q1] | simp only [q2] | simp only [q3] | simp only [Act.put] | simp only [q4] | simp only [q5] | simp only [q6]))
       refine tkH (i := 13) (v := ?_) rfl (by kernel_rfl) (fun _ _ _ h => h) (Or.inl ⟨by rfl, ?_⟩) HS9.out ?_
       rotate_left
       ·(intro W hSw; (try dsimp only at hSw); go_simp; try with_reducible rfl)
       (repeat (first | simp only [q1] | simp only [q2] | simp only [q3] | simp only [Act.put] | simp only [q4] | simp only [q5] | simp only [q6]))
       refine oneL (i := 14) (by kernel_rfl) rfl ?_
       (repeat (first | simp only [q1] | simp only [q2] | simp only [q3]))
       have z0 : w9.cell? ⟨tb, 0, none⟩ = some (.slice J k jc) := by rw [cell_of_row _ _ 0 _ _ _ HT9.out]; rfl
       have zf : w9.frozen? ⟨tb, 0, none⟩ = false := frozen_of_row _ _ _ _ _ HT9.out
       go_wp2_with fail
       have HIn9 : Hid (InsAt wt wn (w9.setCell ⟨tb, 0, none⟩ (.slice A9 (k + 1) c9)) tb A9 (k + 1) c9 (.slice (some ⟨ob, 0, none⟩) 1 1) (insP ms (p.take (k + 1)))) := aside (by rw [HNx.out]; exact HInD.out.push htb8 htb6 HOw9.out HB9.out)
       change _ ∧ _
       refine ⟨HIn9.out.bl, ?_⟩
       (try dsimp only)
       (repeat (first | simp only [q1] | simp only [q2] | simp only [q3] | simp only [Act.put] | simp only [q4] | simp only [q5] | simp only [q6]))
       refine wpAnyH_done (by kernel_rfl) ?_ _
       go_upto_region 27 with fail
       change Code.wp _ _ _ _ (w9.setCell ⟨tb, 0, none⟩ (.slice A9 (k + 1) c9))
       generalize (w9.setCell ⟨tb, 0, none⟩ (.slice A9 (k + 1) c9)) = wz at HIn9 ⊢
       clear HT9 HS9 HOw9 HB9 z0 zf HIn HInD x0
       go_wp2
       exact ⟨⟨k + 1, A9, c9, by omega, by go_num, HIn9⟩, by simp [Go.RowKit.intOf]; omega⟩
      ·refine wpOp_of_list rfl ?_
       (repeat (first | simp only [q1] | simp only [q2] | simp only [q3]))
       go_wp2_with (first
        | (refine wpList_in rfl (.tmp 112) rfl (encIn (inOf r)) rfl (encIn_len _) ?_)
        | fail)
       change _ ∧ _
       refine ⟨hS.alloc (HB.out.size) _, ?_⟩
       (try dsimp only)
       (repeat (first | simp only [q1] | simp only [q2] | simp only [q3] | simp only [Act.put] | simp only [q4] | simp only [q5] | simp only [q6]))
       have x0e : (wr.alloc (.cells (encIn (inOf r)).toArray 63)).cell? ⟨tb, 0, none⟩ = some (.slice J k jc) := (((Below.refl wr.heap.size _).alloc (Nat.le_refl _) _).cell (p := ⟨tb, 0, none⟩) HInD.out.tb_lt).trans x0
       refine oneL (i := 1) (by kernel_rfl) rfl ?_
       (repeat (first | simp only [q1] | simp only [q2] | simp only [q3]))
       go_wp2_with fail
       change _ ∧ _
       refine ⟨hS.alloc (HB.out.size) _, ?_⟩
       (try dsimp only)
       (repeat (first | simp only [q1] | simp only [q2] | simp only [q3] | simp only [Act.put] | simp only [q4] | simp only [q5] | simp only [q6]))
       clear x0e
       refine oneL (i := 12) (by kernel_rfl) rfl ?_
       (repeat (first | simp only [q1] | simp only [q2] | simp only [q3]))
       go_wp2_with (first
        | (at_builtin; refine wpList_push rfl (.tmp 103) (.tmp 113) 29 rfl wn.heap.size _ 34 64 Tryz.underlying29 infoIn (by kernel_rfl) (by decide) (.slice J k jc) k _ rfl rfl HE2.out HE1.out HInD.out.row (by omega) (by unfold maxLen; omega) hz8 ?_; intro A9 c9 w9 hc9 hc9' hown9 hb9 hz9 hg9)
        | fail)
       have HOw9 := aside hown9
       have HB9 := aside hb9
       have HT9 := aside ((hb9.block tb htb8).trans HInD.out.tx)
       have HS9 : Hid (Below wt.heap.size wt w9) := aside (HInD.out.bl.trans (hb9.mono HB8.out.size))
       clear hown9 hb9 hg9
       change _ ∧ _
       refine ⟨HS9.out, ?_⟩
       (try dsimp only)
       (repeat (first | simp only [q1] | simp only [q2] | simp only [q3] | simp only [Act.put] | simp only [q4] | simp only [q5] | simp only [q6]))
       refine tkH (i := 13) (v := ?_) rfl (by kernel_rfl) (fun _ _ _ h => h) (Or.inl ⟨by rfl, ?_⟩) HS9.out ?_
       rotate_left
       ·(intro W hSw; (try dsimp only at hSw); go_simp; try with_reducible rfl)
       (repeat (first | simp only [q1] | simp only [q2] | simp only [q3] | simp only [Act.put] | simp only [q4] | simp only [q5] | simp only [q6]))
       refine oneL (i := 14) (by kernel_rfl) rfl ?_
       (repeat (first | simp only [q1] | simp only [q2] | simp only [q3]))
       have z0 : w9.cell? ⟨tb, 0, none⟩ = some (.slice J k jc) := by rw [cell_of_row _ _ 0 _ _ _ HT9.out]; rfl
       have zf : w9.frozen? ⟨tb, 0, none⟩ = false := frozen_of_row _ _ _ _ _ HT9.out
       go_wp2_with fail
       have HIn9 : Hid (InsAt wt wn (w9.setCell ⟨tb, 0, none⟩ (.slice A9 (k + 1) c9)) tb A9 (k + 1) c9 (.slice (some ⟨ob, 0, none⟩) 1 1) (insP ms (p.take (k + 1)))) := aside (by rw [HNx.out]; exact HInD.out.push htb8 htb6 HOw9.out HB9.out)
       change _ ∧ _
       refine ⟨HIn9.out.bl, ?_⟩
       (try dsimp only)
       (repeat (first | simp only [q1] | simp only [q2] | simp only [q3] | simp only [Act.put] | simp only [q4] | simp only [q5] | simp only [q6]))
       refine wpAnyH_done (by kernel_rfl) ?_ _
       go_upto_region 27 with fail
       change Code.wp _ _ _ _ (w9.setCell ⟨tb, 0, none⟩ (.slice A9 (k + 1) c9))
       generalize (w9.setCell ⟨tb, 0, none⟩ (.slice A9 (k + 1) c9)) = wz at HIn9 ⊢
       clear HT9 HS9 HOw9 HB9 z0 zf HIn HInD x0
       go_wp2
       exact ⟨⟨k + 1, A9, c9, by omega, by go_num, HIn9⟩, by simp [Go.RowKit.intOf]; omega⟩
     ·obtain rfl : k = p.length := by omega
      have i0 : ((p.length : Int) < (p.length : Int)) = False := by simp
      have HIn2 : Hid (InsAt wt wn wr tb J p.length jc (.slice (some ⟨ob, 0, none⟩) 1 1) (insP ms p)) := aside (by
       have h9 := HIn.out
       rwa [List.take_length] at h9)
      have hB9 := HIn.out.bl
      have HWo := aside (Pk.worth_any ns I K kc p A6 p.length c6 wr ((Sl.below HIs6.out hB9).more hB9.size) ((Sl.below HPl6.out hB9).more hB9.size) (by omega) HFw.out.ok HFw.out.pos HFw.out.most.2)
      obtain ⟨left, hleft⟩ : ∃ left, left = leftK ns want := ⟨_, rfl⟩
      have HLe := aside hleft
      obtain ⟨sm, hsm⟩ : ∃ sm, sm = Pk.sumG (Pk.atZ ns) p := ⟨_, rfl⟩
      have hlf : left = sm - want := by rw [hleft, hsm, HPt.out]; rfl
      rw [← hsm] at HWo
      have hlb := HLf.out
      rw [← hleft] at hlb
      have hsw : IntKind.i64.wrap (sm - want) = left := by rw [IntKind.wrap_i64]; omega
      clear hleft HIn HLf hB9 hkn hsm hlf
      go_wp2_with fail
      refine HWo.out.mono ?_
      rintro e w9 ⟨rfl, hw9⟩
      subst hw9
      clear HWo
      go_upto_if 122 with fail
      obtain ⟨L, hL⟩ : ∃ L, L = ls.getD (frI cs (ls.map lkP) 0) (none, []) := ⟨_, rfl⟩
      have hlsl : ls.length = N := by have := HLs6.out.len; simpa using this
      have hfr := frI_lt cs (ls.map lkP) 0 (by rw [List.length_map]; omega)
      rw [List.length_map, Nat.zero_add] at hfr
      have hLm : L ∈ ls := by rw [hL]; exact gd_mem _ hfr
      have hLp : L.2.map ROp.pl = (ls.map lkP).getD (frI cs (ls.map lkP) 0) [] := by
       rw [map_getD lkP (none, []) [] hfr, ← hL]
       rfl
      have HLe2 := aside hL
      have HLp2 := aside hLp
      have HLq2 := aside (HLq9.out L hLm)
      have HLd2 := aside (HLd.out L hLm)
      have HO1 : Hid (OutOk ⟨amt, oA, on, oc, rs⟩) := aside ⟨HMa.out, HLq.out⟩
      clear hL hlsl hfr hLm hLp
      go_cut [] from 121 to 132 (fun wx => ∃ (O : Option Addr) (mo mc : Nat) (os : List ROut), Hid (OutsAt wt wn wx b2 tb J p.length jc O mo mc (insP ms p) os) ∧ Hid (os.map ROut.pl = outK amt (rs.map ROp.pl) left (L.2.map ROp.pl)) ∧ Hid (0 < mo ∧ mo ≤ 4) ∧ Hid (∀ o ∈ os, OutOk o))
      case first =>
       by_cases hpos : 0 < left
       case neg =>
        have hpos2 : left ≤ 0 := by omega
        have hposb : decide (0 < left) = false := decide_eq_false hpos
        have HOu : Hid (OutsAt wt wn w9 b2 tb J p.length jc (some ⟨ob, 0, none⟩) 1 1 (insP ms p) [⟨amt, oA, on, oc, rs⟩]) := aside (OutsAt.one HTn.out HIn2.out)
        have HPo : Hid (([⟨amt, oA, on, oc, rs⟩] : List ROut).map ROut.pl = outK amt (rs.map ROp.pl) left (L.2.map ROp.pl)) := aside (by
         unfold outK
         rw [if_neg hpos]
         rfl)
        have HOk : Hid (∀ o ∈ ([⟨amt, oA, on, oc, rs⟩] : List ROut), OutOk o) := aside (fun o ho => by obtain rfl := List.mem_singleton.1 ho; exact HO1.out)
        go_wp2_with fail
        go_meet
        exact ⟨_, 1, 1, _, HOu, HPo, aside ⟨by omega, by omega⟩, HOk⟩
       case pos =>
        go_upto_region 31 with fail
        have HB := aside HIn2.out.bl
        have hwz := HB.out.size
        have hobr := heap_kp HIn2.out.kp HTn.out.out HTn.out.lo.2.2
        have hobl := (Array.getElem?_eq_some_iff.1 hobr).1
        have HOb := aside hobr
        have x1d : w9.cell? ⟨tb, 1, none⟩ = some (.slice (some ⟨ob, 0, none⟩) 1 1) := HIn2.out.cell.2.1
        have htl := HIn2.out.tb_lt
        have Hwr : Hid (Below w9.heap.size w9 (w9.drewN 1)) := aside (below_drawn (Below.refl _ _) 1)
        have HFr := aside (unused_any ls cs A1 A N c1 m c hN0 hN1 hNc hmm (w9.drewN 1) ((Sl.below HLs6.out (HB.out.trans (Hwr.out.mono hwz))).more hwz) (fun l hl => ((HLr6.out l hl).below (HB.out.trans (Hwr.out.mono hwz))).more hwz) HLsh.out ((HCo6.out.below (HB.out.trans (Hwr.out.mono hwz))).more hwz))
        rw [← HLe2.out] at HFr
        clear hobr
        refine wp_region_held_drew (S := (fun w' => Below wt.heap.size wt w')) (by kernel_rfl) (below_drawn HB.out 1) (fun hS => ?_)
        refine tkH (i := 0) (v := ?_) rfl (by kernel_rfl) (fun _ _ _ h => h) (Or.inl ⟨by rfl, ?_⟩) hS ?_
        rotate_left
        ·(intro W hSw; (try dsimp only at hSw); go_simp; try with_reducible rfl)
        (repeat (first | simp only [q1] | simp only [q2] | simp only [q3] | simp only [Act.put] | simp only [q4] | simp only [q5] | simp only [q6]))
        refine tkH (i := 2) (v := ?_) rfl (by kernel_rfl) (fun _ _ _ h => h) (Or.inl ⟨by rfl, ?_⟩) hS ?_
        rotate_left
        ·(intro W hSw; (try dsimp only at hSw); go_simp; try with_reducible rfl)
        (repeat (first | simp only [q1] | simp only [q2] | simp only [q3] | simp only [Act.put] | simp only [q4] | simp only [q5] | simp only [q6]))
        refine tkH (i := 3) (v := ?_) rfl (by kernel_rfl) (fun _ _ _ h => h) (Or.inl ⟨by rfl, ?_⟩) hS ?_
        rotate_left
        ·(intro W hSw; (try dsimp only at hSw); go_simp; try with_reducible rfl)
        (repeat (first | simp only [q1] | simp only [q2] | simp only [q3] | simp only [Act.put] | simp only [q4] | simp only [q5] | simp only [q6]))
        refine tkH (i := 4) (v := ?_) rfl (by kernel_rfl) (fun _ _ _ h => h) (Or.inl ⟨by rfl, ?_⟩) hS ?_
        rotate_left
        ·(intro W hSw; (try dsimp only at hSw); go_simp; try with_reducible rfl)
        (repeat (first | simp only [q1] | simp only [q2] | simp only [q3] | simp only [Act.put] | simp only [q4] | simp only [q5] | simp only [q6]))
        refine wpAnyH_all (rs := [1, 5]) (by kernel_rfl) (by simp) ?_
        intro m9 hm9
        simp only [List.mem_cons, List.not_mem_nil, or_false] at hm9
        rcases hm9 with rfl | rfl
        ·refine wpOp_of_list rfl ?_
         (repeat (first | simp only [q1] | simp only [q2] | simp only [q3]))
         go_wp2_with fail
         change _ ∧ _
         refine ⟨hS, ?_⟩
         (try dsimp only)
         (repeat (first | simp only [q1] | simp only [q2] | simp only [q3] | simp only [Act.put] | simp only [q4] | simp only [q5] | simp only [q6]))
         refine oneL (i := 5) (by kernel_rfl) rfl ?_
         (repeat (first | simp only [q1] | simp only [q2] | simp only [q3]))
         go_wp2_with (first
          | (go_at_call 21; refine HFr.out.mono ?_; rintro e wg ⟨rfl, hb9⟩; have HBg : Hid (Below w9.heap.size w9 wg) := aside (Hwr.out.trans hb9); have HSg : Hid (Below wt.heap.size wt wg) := aside (HB.out.trans (HBg.out.mono hwz)); have x1g : wg.cell? ⟨tb, 1, none⟩ = some (.slice (some ⟨ob, 0, none⟩) 1 1) := (HBg.out.cell (p := ⟨tb, 1, none⟩) htl).trans x1d; clear hb9)
          | fail)
         change _ ∧ _
         refine ⟨HSg.out, ?_⟩
         (try dsimp only)
         (repeat (first | simp only [q1] | simp only [q2] | simp only [q3] | simp only [Act.put] | simp only [q4] | simp only [q5] | simp only [q6]))
         refine tkH (i := 6) (v := ?_) rfl (by kernel_rfl) (fun _ _ _ h => h) (Or.inl ⟨by rfl, ?_⟩) HSg.out ?_
         rotate_left
         ·(intro W hSw; (try dsimp only at hSw); go_simp; try with_reducible rfl)
         (repeat (first | simp only [q1] | simp only [q2] | simp only [q3] | simp only [Act.put] | simp only [q4] | simp only [q5] | simp only [q6]))
         refine oneL (i := 7) (by kernel_rfl) rfl ?_
         (repeat (first | simp only [q1] | simp only [q2] | simp only [q3]))
         go_wp2_with fail
         change _ ∧ _
         refine ⟨HSg.out.alloc HSg.out.size _, ?_⟩
         (try dsimp only)
         (repeat (first | simp only [q1] | simp only [q2] | simp only [q3] | simp only [Act.put] | simp only [q4] | simp only [q5] | simp only [q6]))
         have HOw : Hid (wg.ownsRow wt.heap.size 27 2 (.slice (some ⟨ob, 0, none⟩) 1 1) 1 [.int .i64 amt, .slice oA on oc]) := aside (own_shut (cur := [.int .i64 amt, .slice oA on oc]) HTn.out.lo.2.1 ((HBg.out.block ob hobl).trans HOb.out) (Nat.le_refl _) (by unfold maxLen; omega) rfl rfl)
         have hzg := HSg.out.size
         refine oneL (i := 8) (by kernel_rfl) rfl ?_
         (repeat (first | simp only [q1] | simp only [q2] | simp only [q3]))
         go_wp2_with (first
          | (at_builtin; refine wpList_push rfl (.tmp 124) (.tmp 130) 30 rfl wt.heap.size _ 2 32 Tryz.underlying30 infoOut (by kernel_rfl) (by decide) (.slice (some ⟨ob, 0, none⟩) 1 1) 1 _ rfl rfl rfl (by simp [Value.oneCell']) HOw.out (by omega) (by unfold maxLen; omega) hzg ?_; intro O9 c9 wh hc9 hc9' hown9 hb9 hz9 hg9)
          | fail)
         have HOw9 := aside hown9
         have HS9 : Hid (Below wt.heap.size wt wh) := aside (HSg.out.trans hb9)
         have HT9 : Hid (wh.heap[tb]? = some (.cells #[.slice J p.length jc, .slice (some ⟨ob, 0, none⟩) 1 1, .int .i64 0] 32 (0, 0))) := aside ((hg9.by_.block tb (Nat.lt_of_lt_of_le htl HBg.out.size) (fun e => HTn.out.lo.2.2 (Option.some.inj (show some ob = some tb from e.symm)))).trans ((HBg.out.block tb htl).trans HIn2.out.tx))
         have HG9 := aside hg9
         clear hown9 hb9 hg9
         change _ ∧ _
         refine ⟨HS9.out, ?_⟩
         (try dsimp only)
         (repeat (first | simp only [q1] | simp only [q2] | simp only [q3] | simp only [Act.put] | simp only [q4] | simp only [q5] | simp only [q6]))
         refine tkH (i := 9) (v := ?_) rfl (by kernel_rfl) (fun _ _ _ h => h) (Or.inl ⟨by rfl, ?_⟩) HS9.out ?_
         rotate_left
         ·(intro W hSw; (try dsimp only at hSw); go_simp; try with_reducible rfl)
         (repeat (first | simp only [q1] | simp only [q2] | simp only [q3] | simp only [Act.put] | simp only [q4] | simp only [q5] | simp only [q6]))
         refine oneL (i := 10) (by kernel_rfl) rfl ?_
         (repeat (first | simp only [q1] | simp only [q2] | simp only [q3]))
         have z0 : wh.cell? ⟨tb, 1, none⟩ = some (.slice (some ⟨ob, 0, none⟩) 1 1) := by rw [cell_of_row _ _ 1 _ _ _ HT9.out]; rfl
         have zf : wh.frozen? ⟨tb, 1, none⟩ = false := frozen_of_row _ _ _ _ _ HT9.out
         go_wp2_with fail
         have HOu : Hid (OutsAt wt wn (wh.setCell ⟨tb, 1, none⟩ (.slice O9 2 c9)) b2 tb J p.length jc O9 2 c9 (insP ms p) [⟨amt, oA, on, oc, rs⟩, ⟨left, L.1, 2, 2, L.2⟩]) := aside (OutsAt.two HTn.out HIn2.out HBg.out (fun E hE => (HLd2.out.sx (fun x hx => by have h1 := hE x hx; have h2 := B6t.out.size; omega)).step (Kp.of (B6t.out.trans (HSg.out.mono B6t.out.size)))) HOw9.out HG9.out)
         have HPo : Hid (([⟨amt, oA, on, oc, rs⟩, ⟨left, L.1, 2, 2, L.2⟩] : List ROut).map ROut.pl = outK amt (rs.map ROp.pl) left (L.2.map ROp.pl)) := aside (by
          unfold outK
          rw [if_pos hpos]
          rfl)
         have HOk : Hid (∀ o ∈ ([⟨amt, oA, on, oc, rs⟩, ⟨left, L.1, 2, 2, L.2⟩] : List ROut), OutOk o) := aside (fun o ho => by
          simp only [List.mem_cons, List.not_mem_nil, or_false] at ho
          rcases ho with rfl | rfl
          ·exact HO1.out
          ·refine ⟨?_, HLq2.out⟩
           show moneyE left = 0
           unfold moneyE
           rw [if_neg (by omega)])
         change _ ∧ _
         refine ⟨HOu.out.bl, ?_⟩
         (try dsimp only)
         (repeat (first | simp only [q1] | simp only [q2] | simp only [q3] | simp only [Act.put] | simp only [q4] | simp only [q5] | simp only [q6]))
         refine wpAnyH_done (by kernel_rfl) ?_ _
         go_wp2_with fail
         go_meet
         exact ⟨O9, 2, c9, _, HOu, HPo, aside ⟨by omega, by omega⟩, HOk⟩
        ·refine wpOp_of_list rfl ?_
         (repeat (first | simp only [q1] | simp only [q2] | simp only [q3]))
         go_wp2_with (first
          | (go_at_call 21; refine HFr.out.mono ?_; rintro e wg ⟨rfl, hb9⟩; have HBg : Hid (Below w9.heap.size w9 wg) := aside (Hwr.out.trans hb9); have HSg : Hid (Below wt.heap.size wt wg) := aside (HB.out.trans (HBg.out.mono hwz)); have x1g : wg.cell? ⟨tb, 1, none⟩ = some (.slice (some ⟨ob, 0, none⟩) 1 1) := (HBg.out.cell (p := ⟨tb, 1, none⟩) htl).trans x1d; clear hb9)
          | fail)
         change _ ∧ _
         refine ⟨HSg.out, ?_⟩
         (try dsimp only)
         (repeat (first | simp only [q1] | simp only [q2] | simp only [q3] | simp only [Act.put] | simp only [q4] | simp only [q5] | simp only [q6]))
         refine tkH (i := 6) (v := ?_) rfl (by kernel_rfl) (fun _ _ _ h => h) (Or.inl ⟨by rfl, ?_⟩) HSg.out ?_
         rotate_left
         ·(intro W hSw; (try dsimp only at hSw); go_simp; try with_reducible rfl)
         (repeat (first | simp only [q1] | simp only [q2] | simp only [q3] | simp only [Act.put] | simp only [q4] | simp only [q5] | simp only [q6]))
         refine wpAnyH_all (rs := [1, 7]) (by kernel_rfl) (by simp) ?_
         intro m9 hm9
         simp only [List.mem_cons, List.not_mem_nil, or_false] at hm9
         rcases hm9 with rfl | rfl
         ·refine wpOp_of_list rfl ?_
          (repeat (first | simp only [q1] | simp only [q2] | simp only [q3]))
          go_wp2_with fail
          change _ ∧ _
          refine ⟨HSg.out, ?_⟩
          (try dsimp only)
          (repeat (first | simp only [q1] | simp only [q2] | simp only [q3] | simp only [Act.put] | simp only [q4] | simp only [q5] | simp only [q6]))
          refine oneL (i := 7) (by kernel_rfl) rfl ?_
          (repeat (first | simp only [q1] | simp only [q2] | simp only [q3]))
          go_wp2_with fail
          change _ ∧ _
          refine ⟨HSg.out.alloc HSg.out.size _, ?_⟩
          (try dsimp only)
          (repeat (first | simp only [q1] | simp only [q2] | simp only [q3] | simp only [Act.put] | simp only [q4] | simp only [q5] | simp only [q6]))
          have HOw : Hid (wg.ownsRow wt.heap.size 27 2 (.slice (some ⟨ob, 0, none⟩) 1 1) 1 [.int .i64 amt, .slice oA on oc]) := aside (own_shut (cur := [.int .i64 amt, .slice oA on oc]) HTn.out.lo.2.1 ((HBg.out.block ob hobl).trans HOb.out) (Nat.le_refl _) (by unfold maxLen; omega) rfl rfl)
          have hzg := HSg.out.size
          refine oneL (i := 8) (by kernel_rfl) rfl ?_
          (repeat (first | simp only [q1] | simp only [q2] | simp only [q3]))
          go_wp2_with (first
           | (at_builtin; refine wpList_push rfl (.tmp 124) (.tmp 130) 30 rfl wt.heap.size _ 2 32 Tryz.underlying30 infoOut (by kernel_rfl) (by decide) (.slice (some ⟨ob, 0, none⟩) 1 1) 1 _ rfl rfl rfl (by simp [Value.oneCell']) HOw.out (by omega) (by unfold maxLen; omega) hzg ?_; intro O9 c9 wh hc9 hc9' hown9 hb9 hz9 hg9)
           | fail)
          have HOw9 := aside hown9
          have HS9 : Hid (Below wt.heap.size wt wh) := aside (HSg.out.trans hb9)
          have HT9 : Hid (wh.heap[tb]? = some (.cells #[.slice J p.length jc, .slice (some ⟨ob, 0, none⟩) 1 1, .int .i64 0] 32 (0, 0))) := aside ((hg9.by_.block tb (Nat.lt_of_lt_of_le htl HBg.out.size) (fun e => HTn.out.lo.2.2 (Option.some.inj (show some ob = some tb from e.symm)))).trans ((HBg.out.block tb htl).trans HIn2.out.tx))
          have HG9 := aside hg9
          clear hown9 hb9 hg9
          change _ ∧ _
          refine ⟨HS9.out, ?_⟩
          (try dsimp only)
          (repeat (first | simp only [q1] | simp only [q2] | simp only [q3] | simp only [Act.put] | simp only [q4] | simp only [q5] | simp only [q6]))
          refine tkH (i := 9) (v := ?_) rfl (by kernel_rfl) (fun _ _ _ h => h) (Or.inl ⟨by rfl, ?_⟩) HS9.out ?_
          rotate_left
          ·(intro W hSw; (try dsimp only at hSw); go_simp; try with_reducible rfl)
          (repeat (first | simp only [q1] | simp only [q2] | simp only [q3] | simp only [Act.put] | simp only [q4] | simp only [q5] | simp only [q6]))
          refine oneL (i := 10) (by kernel_rfl) rfl ?_
          (repeat (first | simp only [q1] | simp only [q2] | simp only [q3]))
          have z0 : wh.cell? ⟨tb, 1, none⟩ = some (.slice (some ⟨ob, 0, none⟩) 1 1) := by rw [cell_of_row _ _ 1 _ _ _ HT9.out]; rfl
          have zf : wh.frozen? ⟨tb, 1, none⟩ = false := frozen_of_row _ _ _ _ _ HT9.out
          go_wp2_with fail
          have HOu : Hid (OutsAt wt wn (wh.setCell ⟨tb, 1, none⟩ (.slice O9 2 c9)) b2 tb J p.length jc O9 2 c9 (insP ms p) [⟨amt, oA, on, oc, rs⟩, ⟨left, L.1, 2, 2, L.2⟩]) := aside (OutsAt.two HTn.out HIn2.out HBg.out (fun E hE => (HLd2.out.sx (fun x hx => by have h1 := hE x hx; have h2 := B6t.out.size; omega)).step (Kp.of (B6t.out.trans (HSg.out.mono B6t.out.size)))) HOw9.out HG9.out)
          have HPo : Hid (([⟨amt, oA, on, oc, rs⟩, ⟨left, L.1, 2, 2, L.2⟩] : List ROut).map ROut.pl = outK amt (rs.map ROp.pl) left (L.2.map ROp.pl)) := aside (by
           unfold outK
           rw [if_pos hpos]
           rfl)
          have HOk : Hid (∀ o ∈ ([⟨amt, oA, on, oc, rs⟩, ⟨left, L.1, 2, 2, L.2⟩] : List ROut), OutOk o) := aside (fun o ho => by
           simp only [List.mem_cons, List.not_mem_nil, or_false] at ho
           rcases ho with rfl | rfl
           ·exact HO1.out
           ·refine ⟨?_, HLq2.out⟩
            show moneyE left = 0
            unfold moneyE
            rw [if_neg (by omega)])
          change _ ∧ _
          refine ⟨HOu.out.bl, ?_⟩
          (try dsimp only)
          (repeat (first | simp only [q1] | simp only [q2] | simp only [q3] | simp only [Act.put] | simp only [q4] | simp only [q5] | simp only [q6]))
          refine wpAnyH_done (by kernel_rfl) ?_ _
          go_wp2_with fail
          go_meet
          exact ⟨O9, 2, c9, _, HOu, HPo, aside ⟨by omega, by omega⟩, HOk⟩
         ·refine wpOp_of_list rfl ?_
          (repeat (first | simp only [q1] | simp only [q2] | simp only [q3]))
          go_wp2_with fail
          change _ ∧ _
          refine ⟨HSg.out.alloc HSg.out.size _, ?_⟩
          (try dsimp only)
          (repeat (first | simp only [q1] | simp only [q2] | simp only [q3] | simp only [Act.put] | simp only [q4] | simp only [q5] | simp only [q6]))
          have x1e : (wg.alloc (.cells #[.int .i64 left, .slice L.1 2 2] 27)).cell? ⟨tb, 1, none⟩ = some (.slice (some ⟨ob, 0, none⟩) 1 1) := (((Below.refl wg.heap.size _).alloc (Nat.le_refl _) _).cell (p := ⟨tb, 1, none⟩) (Nat.lt_of_lt_of_le htl HBg.out.size)).trans x1g
          have hSe := HSg.out.alloc HSg.out.size (.cells #[.int .i64 left, .slice L.1 2 2] 27)
          generalize hWe : (wg.alloc (.cells #[.int .i64 left, .slice L.1 2 2] 27)) = we at x1e hSe ⊢
          refine oneL (i := 1) (by kernel_rfl) rfl ?_
          (repeat (first | simp only [q1] | simp only [q2] | simp only [q3]))
          go_wp2_with fail
          change _ ∧ _
          refine ⟨hSe, ?_⟩
          (try dsimp only)
          (repeat (first | simp only [q1] | simp only [q2] | simp only [q3] | simp only [Act.put] | simp only [q4] | simp only [q5] | simp only [q6]))
          clear x1e hSe
          subst hWe
          have HOw : Hid (wg.ownsRow wt.heap.size 27 2 (.slice (some ⟨ob, 0, none⟩) 1 1) 1 [.int .i64 amt, .slice oA on oc]) := aside (own_shut (cur := [.int .i64 amt, .slice oA on oc]) HTn.out.lo.2.1 ((HBg.out.block ob hobl).trans HOb.out) (Nat.le_refl _) (by unfold maxLen; omega) rfl rfl)
          have hzg := HSg.out.size
          refine oneL (i := 8) (by kernel_rfl) rfl ?_
          (repeat (first | simp only [q1] | simp only [q2] | simp only [q3]))
          go_wp2_with (first
           | (at_builtin; refine wpList_push rfl (.tmp 124) (.tmp 130) 30 rfl wt.heap.size _ 2 32 Tryz.underlying30 infoOut (by kernel_rfl) (by decide) (.slice (some ⟨ob, 0, none⟩) 1 1) 1 _ rfl rfl rfl (by simp [Value.oneCell']) HOw.out (by omega) (by unfold maxLen; omega) hzg ?_; intro O9 c9 wh hc9 hc9' hown9 hb9 hz9 hg9)
           | fail)
          have HOw9 := aside hown9
          have HS9 : Hid (Below wt.heap.size wt wh) := aside (HSg.out.trans hb9)
          have HT9 : Hid (wh.heap[tb]? = some (.cells #[.slice J p.length jc, .slice (some ⟨ob, 0, none⟩) 1 1, .int .i64 0] 32 (0, 0))) := aside ((hg9.by_.block tb (Nat.lt_of_lt_of_le htl HBg.out.size) (fun e => HTn.out.lo.2.2 (Option.some.inj (show some ob = some tb from e.symm)))).trans ((HBg.out.block tb htl).trans HIn2.out.tx))
          have HG9 := aside hg9
          clear hown9 hb9 hg9
          change _ ∧ _
          refine ⟨HS9.out, ?_⟩
          (try dsimp only)
          (repeat (first | simp only [q1] | simp only [q2] | simp only [q3] | simp only [Act.put] | simp only [q4] | simp only [q5] | simp only [q6]))
          refine tkH (i := 9) (v := ?_) rfl (by kernel_rfl) (fun _ _ _ h => h) (Or.inl ⟨by rfl, ?_⟩) HS9.out ?_
          rotate_left
          ·(intro W hSw; (try dsimp only at hSw); go_simp; try with_reducible rfl)
          (repeat (first | simp only [q1] | simp only [q2] | simp only [q3] | simp only [Act.put] | simp only [q4] | simp only [q5] | simp only [q6]))
          refine oneL (i := 10) (by kernel_rfl) rfl ?_
          (repeat (first | simp only [q1] | simp only [q2] | simp only [q3]))
          have z0 : wh.cell? ⟨tb, 1, none⟩ = some (.slice (some ⟨ob, 0, none⟩) 1 1) := by rw [cell_of_row _ _ 1 _ _ _ HT9.out]; rfl
          have zf : wh.frozen? ⟨tb, 1, none⟩ = false := frozen_of_row _ _ _ _ _ HT9.out
          go_wp2_with fail
          have HOu : Hid (OutsAt wt wn (wh.setCell ⟨tb, 1, none⟩ (.slice O9 2 c9)) b2 tb J p.length jc O9 2 c9 (insP ms p) [⟨amt, oA, on, oc, rs⟩, ⟨left, L.1, 2, 2, L.2⟩]) := aside (OutsAt.two HTn.out HIn2.out HBg.out (fun E hE => (HLd2.out.sx (fun x hx => by have h1 := hE x hx; have h2 := B6t.out.size; omega)).step (Kp.of (B6t.out.trans (HSg.out.mono B6t.out.size)))) HOw9.out HG9.out)
          have HPo : Hid (([⟨amt, oA, on, oc, rs⟩, ⟨left, L.1, 2, 2, L.2⟩] : List ROut).map ROut.pl = outK amt (rs.map ROp.pl) left (L.2.map ROp.pl)) := aside (by
           unfold outK
           rw [if_pos hpos]
           rfl)
          have HOk : Hid (∀ o ∈ ([⟨amt, oA, on, oc, rs⟩, ⟨left, L.1, 2, 2, L.2⟩] : List ROut), OutOk o) := aside (fun o ho => by
           simp only [List.mem_cons, List.not_mem_nil, or_false] at ho
           rcases ho with rfl | rfl
           ·exact HO1.out
           ·refine ⟨?_, HLq2.out⟩
            show moneyE left = 0
            unfold moneyE
            rw [if_neg (by omega)])
          change _ ∧ _
          refine ⟨HOu.out.bl, ?_⟩
          (try dsimp only)
          (repeat (first | simp only [q1] | simp only [q2] | simp only [q3] | simp only [Act.put] | simp only [q4] | simp only [q5] | simp only [q6]))
          refine wpAnyH_done (by kernel_rfl) ?_ _
          go_wp2_with fail
          go_meet
          exact ⟨O9, 2, c9, _, HOu, HPo, aside ⟨by omega, by omega⟩, HOk⟩
      case rest =>
       obtain ⟨O, mo, mc, os, HOu, HPo, HMo, HOk⟩ := hcut
       obtain ⟨wx, hwx⟩ : ∃ wx, wx = wc := ⟨_, rfl⟩
       subst hwx
       obtain ⟨hmo0, hmo4⟩ := HMo.out
       have HBx := aside HOu.out.bl
       have htlx := (Array.getElem?_eq_some_iff.1 HOu.out.tx).1
       have HOkp : Hid (∀ x ∈ p, Pk.OkZ ms.length x) := aside (by rw [HMl.out]; exact HFw.out.ok)
       obtain ⟨ins, hins⟩ : ∃ ins, ins = insP ms p := ⟨_, rfl⟩
       have hnsl : NSl wx wx.heap.size J p.length ins := by rw [hins]; exact Sl.own HOu.out.row
       have hinO : ∀ x ∈ ins, InOk x := by rw [hins]; exact insP_ok HMs.out HOkp.out
       have hinl : ins.length = p.length := by rw [hins]; exact insP_len _ _
       have hosl := HOu.out.outs.len
       have hln : (txB (ins.map RIn.pl) (os.map ROut.pl)).length ≤ 110000 := txB_len (by rw [List.length_map]; omega) (by rw [List.length_map, hosl]; exact hmo4)
        (fun x hx => by obtain ⟨r, hr, rfl⟩ := List.mem_map.1 hx; exact (hinO r hr).1) (fun x hx => by obtain ⟨r, hr, rfl⟩ := List.mem_map.1 hx; exact (out_money (HOk.out r hr)).2.2)
       have hsm9 : ∀ x ∈ txB (ins.map RIn.pl) (os.map ROut.pl), x < 256 := txB_small (fun x hx => by obtain ⟨r, hr, rfl⟩ := List.mem_map.1 hx; exact (hinO r hr).2.1) (fun x hx q hq => by
        obtain ⟨r, hr, rfl⟩ := List.mem_map.1 hx
        obtain ⟨y, hy, rfl⟩ := List.mem_map.1 hq
        exact (HOu.out.outs.lock r hr).byt y hy)
       have HId := aside (ridt_any ins os J O p.length jc mo mc (by omega) hmo4 wx hnsl (fun x hx => ⟨(hinO x hx).1, (hinO x hx).2.2.1, by have := (hinO x hx).2.2.2.1; omega⟩) HOu.out.outs (fun o ho => out_money (HOk.out o ho)))
       obtain ⟨T, hT⟩ : ∃ T, T = [21] ++ txB (ins.map RIn.pl) (os.map ROut.pl) := ⟨_, rfl⟩
       have hTl : T.length ≤ 200000 := by rw [hT, List.length_append]; simp only [List.length_cons, List.length_nil]; omega
       have hTb : ∀ x ∈ T, x < 256 := by
        rw [hT]
        intro x hx
        rcases List.mem_append.1 hx with hx | hx
        ·obtain rfl := List.mem_singleton.1 hx
         omega
        ·exact hsm9 x hx
       obtain ⟨X, hX⟩ : ∃ X, X = idL (ins.map RIn.pl) (os.map ROut.pl) := ⟨_, rfl⟩
       have HXT : Hid (shaL T = X) := aside (by rw [hT, hX]; rfl)
       have HXe := aside hX
       have HXl : Hid (X.length = 32) := aside (by rw [hX]; exact idL_len _ _)
       have HXb : Hid (∀ y ∈ X, y < 256) := aside (by rw [hX]; exact shaL_small _)
       have HTb := aside hTb
       rw [← hT] at HId
       rw [← hins] at HOu
       have HIns := aside hins
       clear hnsl hX hins hinO hosl hln hsm9 hT hTb
       obtain ⟨e0, e1, e2⟩ : wx.cell? ⟨tb, 0, none⟩ = some (.slice J p.length jc) ∧ wx.cell? ⟨tb, 1, none⟩ = some (.slice O mo mc) ∧ wx.cell? ⟨tb, 2, none⟩ = some (.int .i64 0) := by
        refine ⟨?_, ?_, ?_⟩
        ·rw [cell_of_row _ tb 0 _ _ _ HOu.out.tx]; rfl
        ·rw [cell_of_row _ tb 1 _ _ _ HOu.out.tx]; rfl
        ·rw [cell_of_row _ tb 2 _ _ _ HOu.out.tx]; rfl
       go_wp2_with fail
       refine HId.out.mono ?_
       rintro e wv ⟨v, rfl, hv, hbv⟩
       obtain ⟨Av9, cv9, hve, hvy⟩ := hv.sl
       subst hve
       have HRs := aside (rsum_any T Av9 T.length cv9 wv hvy (by omega) HTb.out)
       rw [HXT.out] at HRs
       have HBv := aside hbv
       clear hv hvy hbv HId e0 e1 e2
       go_wp2_with fail
       refine HRs.out.mono ?_
       rintro e wi ⟨rfl, hbi⟩
       have HBi : Hid (Below wx.heap.size wx wi) := aside (HBv.out.trans (hbi.mono HBv.out.size))
       have DZ : Hid ((wi.alloc (.cells (rowY (List.replicate 32 0)) 23)).heap[wi.heap.size]? = some (.cells (rowY (List.replicate 32 0)) 23 (0, 0))) := aside (heap_alloc_new _ _)
       have HSa : Hid ((Tryz.prog.info? 23).map (·.size) = some (rowY X).size) := aside (zinfo X HXl.out)
       have HSb : Hid ((rowY (List.replicate 32 0)).size = (rowY X).size) := aside (zsame _ _ zlen HXl.out)
       clear hbi HRs HBv
       go_upto_region 33 with (first
        | (refine wpList_store_row rfl 23 (.tmp 22) (.tmp 135) rfl wi.heap.size (rowY X) rfl rfl 23 (rowY (List.replicate 32 0)) DZ.out HSa.out HSb.out (rowY_one _) ?_)
        | fail)
       have HB10 : Hid (Below wx.heap.size wx ((wi.alloc (.cells (rowY (List.replicate 32 0)) 23)).setRow wi.heap.size (rowY X))) := aside (below_setRow (HBi.out.alloc HBi.out.size _) _ HBi.out.size _)
       have DI : Hid (BlkY ((wi.alloc (.cells (rowY (List.replicate 32 0)) 23)).setRow wi.heap.size (rowY X)) wi.heap.size 23 X) := aside (setRow_heap _ _ _ _ _ _ DZ.out)
       change Code.wp _ _ _ _ ((wi.alloc (.cells (rowY (List.replicate 32 0)) 23)).setRow wi.heap.size (rowY X))
       generalize ((wi.alloc (.cells (rowY (List.replicate 32 0)) 23)).setRow wi.heap.size (rowY X)) = w10 at HB10 DI ⊢
       obtain ⟨ib, hib⟩ : ∃ ib, ib = wi.heap.size := ⟨_, rfl⟩
       rw [← hib] at DI ⊢
       have hibx : wx.heap.size ≤ ib := by rw [hib]; exact HBi.out.size
       clear hib HBi DZ HSa HSb
       obtain ⟨tl, htl9⟩ := HOu.out.open_
       have HKs0 : Hid (KeysAt wt wn w10 w10 b2 J p.length jc tl [] (insP ms (p.drop 0))) := aside (by
        rw [List.drop_zero, ← HIns.out]
        exact HOu.out.keys hinl htl9 HB10.out)
       have HTl := aside htl9
       have HT10 : Hid (w10.heap[tb]? = some (.cells #[.slice J p.length jc, .slice O mo mc, .int .i64 0] 32 (0, 0))) := aside ((HB10.out.block tb htlx).trans HOu.out.tx)
       have hl10 : tb < w10.heap.size := (Array.getElem?_eq_some_iff.1 HT10.out).1
       have hlm : ls.length = N := by have := HLs6.out.len; simpa using this
       clear hinl htl9
       go_wp2_with fail
       go_loopw [23] (fun v23 wr => ∃ (k : Nat) (xs : List (RIn × List RKey)), k ≤ p.length ∧ v23 = .int .i64 k ∧ xs.length = k ∧ Hid (KeysAt wt wn w10 wr b2 J p.length jc tl xs (insP ms (p.drop k))) ∧ Hid (xs.map inT = inK d (ls.map lkP) X (ms.map RCoin.key) (p.take k))) (fun v23 _ => p.length - (Go.RowKit.intOf v23).toNat)
       case atStart => exact ⟨0, [], Nat.zero_le _, rfl, rfl, HKs0, aside rfl⟩
       case round =>
        clear HKs0
        obtain ⟨k, xs, hk, rfl, hxl, HKs, HIk⟩ := hrel
        by_cases hkn : k < p.length
        ·have k0 : (k : Int) < (p.length : Int) := by omega
         obtain ⟨z, hz⟩ : ∃ z, z = nth p k := ⟨_, rfl⟩
         have hok := HFw.out.ok _ (nth_mem hkn)
         rw [← hz] at hok
         have hzi : z = ((z.toNat : Nat) : Int) := by have := hok.1; omega
         obtain ⟨i, hi⟩ : ∃ i, i = z.toNat := ⟨_, rfl⟩
         rw [← hi] at hzi
         have hiK : i < K := by have := hok.2; omega
         have HB := aside HKs.out.bl
         have hwz := HB.out.size
         obtain ⟨pb, po, hAp, hpb, hpc6⟩ := ISl.at_ HPl6.out hkn
         have hpc := (HB.out.cell (p := ⟨pb, po + k, none⟩) hpb).trans hpc6
         obtain ⟨mb, mo2, hAm, hmb, hrg⟩ := HCm6.out.at_ hiK
         have hmem := HCm6.out.mem hiK
         have hdp : insP ms (p.drop k) = inOf (ms.getD i noC) :: insP ms (p.drop (k + 1)) := by
          rw [insP_drop hkn]
          show inOf (ms.getD (nth p k).toNat noC) :: _ = _
          rw [← hz, ← hi]
         have hik : inK d (ls.map lkP) X (ms.map RCoin.key) (p.take (k + 1)) = inK d (ls.map lkP) X (ms.map RCoin.key) (p.take k) ++ [((ms.getD i noC).tx, (ms.getD i noC).at_, [signL (seedG d (ownF (ls.map lkP) 0 (ms.getD i noC).pl)) X])] := by
          rw [inK_next hkn]
          show _ ++ [((ms.getD (nth p k).toNat noC).tx, (ms.getD (nth p k).toNat noC).at_, [signL (seedG d (ownF (ls.map lkP) 0 (ms.getD (nth p k).toNat noC).pl)) X])] = _
          rw [← hz, ← hi]
         rw [← hz, hzi] at hpc
         rw [hdp] at HKs
         have hmo9 := HMs.out.own _ hmem
         have hmt9 := (HMs.out.tx _ hmem).1
         have hrl := HCm6.out.lock _ hmem
         generalize ms.getD i noC = r at *
         obtain ⟨q, hq⟩ : ∃ q, q = ownF (ls.map lkP) 0 r.pl := ⟨_, rfl⟩
         have hq1 : q < 9223372036854775808 := by
          rw [hq, HLp.out, HN.out]
          have h9 := hmo9.2
          rw [List.length_map, List.length_range] at h9
          omega
         have HQe := aside hq
         rw [← hq] at hik
         have HIk2 := aside hik
         obtain ⟨g, hJ, hg8, hgh⟩ := HKs.out.row (by omega)
         subst hJ
         have hgx : g < wx.heap.size := by
          obtain ⟨g9, e9, -, h9⟩ := HTl.out (by omega)
          injection e9 with e9
          injection e9 with e9
          rw [e9]
          exact (Array.getElem?_eq_some_iff.1 h9).1
         have i0 : (0 : Int) ≤ (i : Int) := by omega
         have i1 : (i : Int) < (K : Int) := by omega
         have HLsr : Hid (Sl wr wr.heap.size 1 A1 N (ls.map lkV)) := aside ((Sl.below HLs6.out HB.out).more hwz)
         have HLrr : Hid (∀ l ∈ ls, RSl wr wr.heap.size l.1 2 l.2) := aside (fun l hl => (HLr6.out l hl).step HB.out)
         have HRlr : Hid (RSl wr wr.heap.size r.lA r.ln r.lk) := aside (hrl.step HB.out)
         have p33 : wr.cell? ⟨mb, mo2 + i * 36 + 33, none⟩ = some (.int .i64 r.amt) := (HB.out.cell (p := ⟨mb, mo2 + i * 36 + 33, none⟩) hmb).trans (hrg 33 _ (encC_at r 1))
         have p34 : wr.cell? ⟨mb, mo2 + i * 36 + 33 + 1, none⟩ = some (.slice r.lA r.ln r.lc) := (HB.out.cell (p := ⟨mb, mo2 + i * 36 + 33 + 1, none⟩) hmb).trans (hrg 34 _ (encC_at r 2))
         have HOwn := aside (qowner_any ls r.lk r.amt A1 r.lA N c1 r.ln r.lc hN1 wr HLsr.out HLrr.out HLsh.out HRlr.out)
         rw [show ownF (ls.map lkP) 0 (r.lk.map ROp.pl) = q from HQe.out.symm] at HOwn
         have HS32 : Hid ((Tryz.prog.info? 23).map (·.size) = some (u8s d).length) := aside (by rw [u8s_len, HDl.out]; exact digInfo)
         subst hAp hAm
         clear hrg hz hi hzi hok hpc6 hdp hik hmo9 hrl hgh hmem hq
         go_upto_region 37 with (first
          | (go_at_call 24; refine HOwn.out.mono ?_; rintro e w20 ⟨rfl, hb9⟩; have HBsx := aside hb9; clear hb9)
          | fail)
         have HKs2 := aside (HKs.out.call HBsx.out)
         have hgE : ∀ b, ¬ b = b2 → ¬ b = g → ¬ (fun b => b = b2 ∨ (Value.slice (some ⟨g, 0, none⟩) p.length jc).ownBlock = some b) b := fun b h1 h2 h3 => h3.elim h1 (fun e => h2 (Option.some.inj (show some g = some b from e)).symm)
         have HgE := aside hgE
         have htb2 : ¬ tb = b2 := by omega
         have htbg : ¬ tb = g := by omega
         have HTb : Hid (w20.heap[tb]? = some (.cells #[.slice (some ⟨g, 0, none⟩) p.length jc, .slice O mo mc, .int .i64 0] 32 (0, 0))) := aside (heap_kp HKs2.out.kp HT10.out (hgE tb htb2 htbg))
         have hibg : ¬ ib = g := by omega
         have hib2 : ¬ ib = b2 := by have := HBx.out.size; omega
         have HIb : Hid (BlkY w20 ib 23 X) := aside (heap_kp HKs2.out.kp DI.out (hgE ib hib2 hibg))
         have HX32 : Hid ((Tryz.prog.info? 23).map (·.size) = some (u8s X).length) := aside (by rw [u8s_len, HXl.out]; exact digInfo)
         have hlow0 : B0 < wt.heap.size := (HX6.out wt (Below.refl _ _)).1.lt
         have hB0g : ¬ B0 = g := by have := HB8.out.size; omega
         have hB02 : ¬ B0 = b2 := by have := Eb2.out; omega
         have HD20 : Hid (BlkY w20 B0 23 d) := aside ((HX6.out w20 HKs2.out.bl).1)
         have HLd9 := aside (show ∀ W, Kp (fun b => b = b2 ∨ (Value.slice (some ⟨g, 0, none⟩) p.length jc).ownBlock = some b) w20 W → W.cell? ⟨tb, 0, none⟩ = some (.slice (some ⟨g, 0, none⟩) p.length jc) from fun W hW => by rw [cell_of_row _ tb 0 _ _ _ (heap_kp hW HTb.out (HgE.out tb htb2 htbg))]; rfl)
         have hKd : Kp (fun b => b = b2 ∨ (Value.slice (some ⟨g, 0, none⟩) p.length jc).ownBlock = some b) w20 (w20.drewN 1) := Kp.of (below_drawn (Below.refl _ _) 1)
         have hgw : g < w20.heap.size := by have h1 := HKs2.out.kp.2; have h2 := HB10.out.size; omega
         clear hgE HKs HB hwz
         refine wp_region_held_drew (S := (fun w' => Kp (fun b => b = b2 ∨ (Value.slice (some ⟨g, 0, none⟩) p.length jc).ownBlock = some b) w20 w')) (by kernel_rfl) hKd (fun hS => ?_)
         refine tkH (i := 0) (v := ?_) rfl (by kernel_rfl) (fun _ _ _ h => h) (Or.inl ⟨by rfl, ?_⟩) hS ?_
         rotate_left
         ·(intro W hSw; (try dsimp only at hSw); go_simp; try with_reducible rfl)
         (repeat (first | simp only [q1] | simp only [q2] | simp only [q3] | simp only [Act.put] | simp only [q4] | simp only [q5] | simp only [q6]))
         refine tkH (i := 1) (v := ?_) rfl (by kernel_rfl) (fun _ _ _ h => h) (Or.inl ⟨by rfl, ?_⟩) hS ?_
         rotate_left
         ·(intro W hSw; (try dsimp only at hSw); have hx9 : W.cell? ⟨tb, 0, none⟩ = some (.slice (some ⟨g, 0, none⟩) p.length jc) := HLd9.out W hSw; go_simp; try with_reducible rfl)
         (repeat (first | simp only [q1] | simp only [q2] | simp only [q3] | simp only [Act.put] | simp only [q4] | simp only [q5] | simp only [q6]))
         refine tkH (i := 2) (v := ?_) rfl (by kernel_rfl) (fun _ _ _ h => h) (Or.inl ⟨by rfl, ?_⟩) hS ?_
         rotate_left
         ·(intro W hSw; (try dsimp only at hSw); go_simp; try with_reducible rfl)
         (repeat (first | simp only [q1] | simp only [q2] | simp only [q3] | simp only [Act.put] | simp only [q4] | simp only [q5] | simp only [q6]))
         refine tkH (i := 3) (v := _) rfl (by kernel_rfl) (fun _ _ _ h => h) (yieldsIf_load_mid (by rfl) _ _ rfl B0 0 rfl (u8s d) _ (fun W hW => BlkY.range (heap_kp hW HD20.out (HgE.out B0 hB02 hB0g))) Tryz.underlying23 rfl HS32.out) hS ?_
         (repeat (first | simp only [q1] | simp only [q2] | simp only [q3] | simp only [Act.put] | simp only [q4] | simp only [q5] | simp only [q6]))
         refine tkH (i := 4) (v := ?_) rfl (by kernel_rfl) (fun _ _ _ h => h) (Or.inl ⟨by rfl, ?_⟩) hS ?_
         rotate_left
         ·(intro W hSw; (try dsimp only at hSw); go_simp; try with_reducible rfl)
         (repeat (first | simp only [q1] | simp only [q2] | simp only [q3] | simp only [Act.put] | simp only [q4] | simp only [q5] | simp only [q6]))
         refine tkH (i := 6) (v := _) rfl (by kernel_rfl) (fun _ _ _ h => h) (yieldsIf_load_mid (by rfl) _ _ rfl ib 0 rfl (u8s X) _ (fun W hW => BlkY.range (heap_kp hW HIb.out (HgE.out ib hib2 hibg))) Tryz.underlying23 rfl HX32.out) hS ?_
         (repeat (first | simp only [q1] | simp only [q2] | simp only [q3] | simp only [Act.put] | simp only [q4] | simp only [q5] | simp only [q6]))
         refine oneL (i := 5) (by kernel_rfl) rfl ?_
         (repeat (first | simp only [q1] | simp only [q2] | simp only [q3]))
         go_wp2_with (first
          | (go_at_call 26; refine (show Calls _ _ #[digV d, _] _ _ from qseed_any d HDl.out HDb.out q hq1 (w20.drewN 1) (HG6.out.below (HKs2.out.bl.trans (below_drawn (Below.refl _ _) 1)))).mono ?_; rintro e ws ⟨rfl, hb9⟩; have HBs : Hid (Below w20.heap.size w20 ws) := aside ((below_drawn (Below.refl w20.heap.size w20) 1).trans hb9); have HKs9 : Hid (Kp (fun b => b = b2 ∨ (Value.slice (some ⟨g, 0, none⟩) p.length jc).ownBlock = some b) w20 ws) := aside (Kp.of HBs.out); clear hb9)
          | fail)
         change _ ∧ _
         refine ⟨HKs9.out, ?_⟩
         (try dsimp only)
         (repeat (first | simp only [q1] | simp only [q2] | simp only [q3] | simp only [Act.put] | simp only [q4] | simp only [q5] | simp only [q6]))
         have HSgn := aside (show Calls _ _ #[digV (seedG d q), digV X] _ _ from rsign_any (seedG d q) X (seedG_len d q) (seedG_small d q) HXl.out HXb.out ws (HG6.out.below (HKs2.out.bl.trans (HBs.out.mono HKs2.out.bl.size))))
         refine oneL (i := 7) (by kernel_rfl) rfl ?_
         (repeat (first | simp only [q1] | simp only [q2] | simp only [q3]))
         go_wp2_with (first
          | (go_at_call 25; refine HSgn.out.mono ?_; rintro e wS ⟨v, rfl, hv, hb9⟩; have HV := aside hv; have HBS : Hid (Below w20.heap.size w20 wS) := aside (HBs.out.trans (hb9.mono HBs.out.size)); have HKS : Hid (Kp (fun b => b = b2 ∨ (Value.slice (some ⟨g, 0, none⟩) p.length jc).ownBlock = some b) w20 wS) := aside (Kp.of HBS.out); clear hv hb9)
          | fail)
         change _ ∧ _
         refine ⟨HKS.out, ?_⟩
         (try dsimp only)
         (repeat (first | simp only [q1] | simp only [q2] | simp only [q3] | simp only [Act.put] | simp only [q4] | simp only [q5] | simp only [q6]))
         obtain ⟨Av, cv, hve, -⟩ := HV.out.sl
         subst hve
         have HBSa : Hid (Below w20.heap.size w20 (wS.alloc (.cells #[.slice Av (signL (seedG d q) X).length cv] 67))) := aside (HBS.out.alloc HBS.out.size _)
         have HKSa : Hid (Kp (fun b => b = b2 ∨ (Value.slice (some ⟨g, 0, none⟩) p.length jc).ownBlock = some b) w20 (wS.alloc (.cells #[.slice Av (signL (seedG d q) X).length cv] 67))) := aside (Kp.of HBSa.out)
         refine oneL (i := 8) (by kernel_rfl) rfl ?_
         (repeat (first | simp only [q1] | simp only [q2] | simp only [q3]))
         go_wp2_with fail
         change _ ∧ _
         refine ⟨HKSa.out, ?_⟩
         (try dsimp only)
         (repeat (first | simp only [q1] | simp only [q2] | simp only [q3] | simp only [Act.put] | simp only [q4] | simp only [q5] | simp only [q6]))
         refine tkH (i := 9) (v := ?_) rfl (by kernel_rfl) (fun _ _ _ h => h) (Or.inl ⟨by rfl, ?_⟩) HKSa.out ?_
         rotate_left
         ·(intro W hSw; (try dsimp only at hSw); go_simp; try with_reducible rfl)
         (repeat (first | simp only [q1] | simp only [q2] | simp only [q3] | simp only [Act.put] | simp only [q4] | simp only [q5] | simp only [q6]))
         refine tkH (i := 10) (v := ?_) rfl (by kernel_rfl) (fun _ _ _ h => h) (Or.inl ⟨by rfl, ?_⟩) HKSa.out ?_
         rotate_left
         ·(intro W hSw; (try dsimp only at hSw); go_simp; try with_reducible rfl)
         (repeat (first | simp only [q1] | simp only [q2] | simp only [q3] | simp only [Act.put] | simp only [q4] | simp only [q5] | simp only [q6]))
         have HKA := aside (HKs2.out.call HBSa.out)
         obtain ⟨y33, yf33⟩ := HKA.out.at_ hxl
         have HVa : Hid (BRow (wS.alloc (.cells #[.slice Av (signL (seedG d q) X).length cv] 67)) 0 (.slice Av (signL (seedG d q) X).length cv) (signL (seedG d q) X)) := aside ((HV.out.below ((Below.refl _ _).alloc (Nat.le_refl _) _)).less (Nat.zero_le _))
         have HSx1 : Hid (Sx (fun b => b = b2 ∨ (Value.slice (some ⟨g, 0, none⟩) p.length jc).ownBlock = some b) (wS.alloc (.cells #[.slice Av (signL (seedG d q) X).length cv] 67)) (fun W => KSl W W.heap.size (some ⟨wS.heap.size, 0, none⟩) 1 [⟨Av, (signL (seedG d q) X).length, cv, signL (seedG d q) X⟩])) := aside (ksl_one (heap_alloc_new wS _) (HgE.out _ (by have h1 := HBS.out.size; have h2 := HBsx.out.size; omega) (by have h1 := HBS.out.size; have h2 := HBsx.out.size; omega)) HVa.out (fun k9 hk9 => by
          have h1 := HV.out.from_ k9 hk9
          have h2 := HBs.out.size
          exact HgE.out k9 (by omega) (by omega)))
         have HKs3 := aside (HKA.out.store hxl (show wt.heap.size ≤ g by have := HB8.out.size; omega) hmt9 (by show (signL (seedG d q) X).length ≤ 100000; rw [signL_len]; omega) HSx1.out)
         have HIk3 : Hid ((xs ++ [({ inOf r with kA := some ⟨wS.heap.size, 0, none⟩, kn := 1, kc := 1 }, [(⟨Av, (signL (seedG d q) X).length, cv, signL (seedG d q) X⟩ : RKey)])]).map inT = inK d (ls.map lkP) X (ms.map RCoin.key) (p.take (k + 1))) := aside (by
          rw [List.map_append, HIk.out, HIk2.out]
          rfl)
         refine oneL (i := 11) (by kernel_rfl) rfl ?_
         (repeat (first | simp only [q1] | simp only [q2] | simp only [q3]))
         go_wp2_with fail
         have HKst : Hid (Kp (fun b => b = b2 ∨ (Value.slice (some ⟨g, 0, none⟩) p.length jc).ownBlock = some b) w20 ((wS.alloc (.cells #[.slice Av (signL (seedG d q) X).length cv] 67)).setCell ⟨g, k * 34 + 33, none⟩ (.slice (some ⟨wS.heap.size, 0, none⟩) 1 1))) := aside (HKSa.out.set (.inr rfl) _ _)
         change _ ∧ _
         refine ⟨HKst.out, ?_⟩
         (try dsimp only)
         (repeat (first | simp only [q1] | simp only [q2] | simp only [q3] | simp only [Act.put] | simp only [q4] | simp only [q5] | simp only [q6]))
         refine wpAnyH_done (by kernel_rfl) ?_ _
         go_upto_region 35 with fail
         change Code.wp _ _ _ _ ((wS.alloc (.cells #[.slice Av (signL (seedG d q) X).length cv] 67)).setCell ⟨g, k * 34 + 33, none⟩ (.slice (some ⟨wS.heap.size, 0, none⟩) 1 1))
         generalize ((wS.alloc (.cells #[.slice Av (signL (seedG d q) X).length cv] 67)).setCell ⟨g, k * 34 + 33, none⟩ (.slice (some ⟨wS.heap.size, 0, none⟩) 1 1)) = wz at HKs3 ⊢
         clear HKA y33 yf33 HVa HSx1 HKst HKSa HBSa HKS HBS HV HKs2 HIb HTb hKd hS HSgn
         go_wp2
         exact ⟨⟨k + 1, _, by omega, by go_num, by rw [List.length_append, hxl]; rfl, HKs3, HIk3⟩, by simp [Go.RowKit.intOf]; omega⟩
        ·obtain rfl : k = p.length := by omega
         have i0 : ((p.length : Int) < (p.length : Int)) = False := by simp
         rw [List.drop_length] at HKs
         rw [List.take_length] at HIk
         have HB := aside HKs.out.bl
         have HBw9 : Hid (Below w.heap.size w wr) := aside (HBwt.out.trans (HB.out.mono HBwt.out.size))
         have D2x : Hid (wr.heap[b2]? = some (.cells #[.slice none 0 0, .slice none 0 0, .int .i64 0] 32 (0, 0))) := aside ((HX6.out wr HB.out).2.2)
         have htbE : ¬ (tb = b2 ∨ (Value.slice J p.length jc).ownBlock = some tb) := fun e => by
          rcases e with e | e
          ·omega
          ·have h9 := own_block_ge HOu.out.row tb e
           omega
         have HTb : Hid (wr.heap[tb]? = some (.cells #[.slice J p.length jc, .slice O mo mc, .int .i64 0] 32 (0, 0))) := aside (heap_kp HKs.out.kp HT10.out htbE)
         have hb28 : b2 < wn.heap.size := Nat.lt_of_lt_of_le hlow HB8.out.size
         have HTi : Hid (TIns (((wr.setCell ⟨b2, 0, none⟩ (.slice J p.length jc)).setCell ⟨b2, 1, none⟩ (.slice O mo mc)).setCell ⟨b2, 2, none⟩ (.int .i64 0)) (((wr.setCell ⟨b2, 0, none⟩ (.slice J p.length jc)).setCell ⟨b2, 1, none⟩ (.slice O mo mc)).setCell ⟨b2, 2, none⟩ (.int .i64 0)).heap.size J p.length xs) := aside (KeysAt.done HKs.out hb28 ((((Kp.refl (fun b => b = b2) wr).set rfl 0 _).set rfl 1 _).set rfl 2 _))
         have HOi : Hid (OSl (((wr.setCell ⟨b2, 0, none⟩ (.slice J p.length jc)).setCell ⟨b2, 1, none⟩ (.slice O mo mc)).setCell ⟨b2, 2, none⟩ (.int .i64 0)) (((wr.setCell ⟨b2, 0, none⟩ (.slice J p.length jc)).setCell ⟨b2, 1, none⟩ (.slice O mo mc)).setCell ⟨b2, 2, none⟩ (.int .i64 0)).heap.size O mo os) := aside (HOu.out.stay _ (((((Kp.of HB10.out).trans HKs.out.kp).set (x := b2) (.inl rfl) 0 _).set (x := b2) (.inl rfl) 1 _).set (x := b2) (.inl rfl) 2 _))
         have HRp : Hid (R = (0, xs.map inT, os.map ROut.pl)) := aside (by
          rw [HR.out, pay4 (d := d) HQ1.out HW2.out HMk.out (by rw [← HNs.out, HW1.out]; exact HPq.out)]
          unfold paidK
          rw [HW1.out, amtK_key, ← HNs.out, ← HPt.out, ← HLe.out, ← HN.out, ← HLp.out, ← HLp2.out, ← insP_pl, ← HPo.out, ← HIns.out, ← HXe.out, ← HIk.out])
         have HS9 : Hid ((Tryz.prog.info? 32).map (·.size) = some (#[.slice J p.length jc, .slice O mo mc, .int .i64 0] : Array Value).size) := aside (by kernel_rfl)
         have hsh : ∀ o ∈ os, o.ln ≤ 1000 ∧ ∀ r ∈ o.lk, r.dn ≤ 1000 := fun o ho => by
          obtain ⟨h1, h2⟩ := lock_short2 (HOu.out.outs.lock o ho) (HOk.out o ho).2
          exact ⟨by omega, fun r hr => by have := h2 r hr; omega⟩
         have HSh := aside hsh
         have xc0 : wr.cell? ⟨b2, 0, none⟩ = some (.slice none 0 0) := by rw [cell_of_row _ _ 0 _ _ _ D2x.out]; rfl
         have xc1 : wr.cell? ⟨b2, 1, none⟩ = some (.slice none 0 0) := by rw [cell_of_row _ _ 1 _ _ _ D2x.out]; rfl
         have xc2 : wr.cell? ⟨b2, 2, none⟩ = some (.int .i64 0) := by rw [cell_of_row _ _ 2 _ _ _ D2x.out]; rfl
         have xf0 : wr.frozen? ⟨b2, 0, none⟩ = false := frozen_of_row _ _ _ _ _ D2x.out
         have xf1 : wr.frozen? ⟨b2, 1, none⟩ = false := frozen_of_row _ _ _ _ _ D2x.out
         have xf2 : wr.frozen? ⟨b2, 2, none⟩ = false := frozen_of_row _ _ _ _ _ D2x.out
         have t0 : wr.cell? ⟨tb, 0, none⟩ = some (.slice J p.length jc) := by rw [cell_of_row _ _ 0 _ _ _ HTb.out]; rfl
         have t1 : wr.cell? ⟨tb, 1, none⟩ = some (.slice O mo mc) := by rw [cell_of_row _ _ 1 _ _ _ HTb.out]; rfl
         have t2 : wr.cell? ⟨tb, 2, none⟩ = some (.int .i64 0) := by rw [cell_of_row _ _ 2 _ _ _ HTb.out]; rfl
         clear hsh htbE hkn
         go_wp2_with fail
         (try simp only [Exit.inBlock, Exit.then])
         refine bodyPost_ret (results_cell_tmp rfl _ _ b2 32 #[.slice J p.length jc, .slice O mo mc, .int .i64 0] (0, 0) _ rfl (set3 D2x.out _ _ _) Tryz.underlying32 rfl HS9.out) rfl ?_
         rw [HRp.out]
         exact ⟨J, p.length, jc, O, mo, mc, xs, os, rfl, HTi.out, HOi.out, rfl, rfl, ⟨by omega, by omega, HSh.out⟩, below_set3 HBw9.out (by rw [Eb2.out, EB.out]; omega) _ _ _⟩
end Go.Proofs.YtbpabjhcjffkmaaGreatDoor
