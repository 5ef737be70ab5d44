/- The reference's LockFault, Money, time, Places: the walks. Conditions: named in each theorem. wallet.checked, wallet.Balance: the walks. Conditions: named in each theorem. The reference's SetFault, KeysFault: the walks. Conditions: named in each theorem. The reference's Total and WorthOf: the walks. Conditions: named in each theorem. -/
import Derived.Test.YtbpabjhcjffkmaaGreatDoorRefR
import Derived.Test.YtbpabjhcjffkmaaGreatDoorCoinA
import Derived.Test.YtbpabjhcjffkmaaGreatDoorPayL
import Derived.OrdersHeld
import Derived.Deep.MidRow
import Derived.Deep.CutRange
import Derived.Test.YtbpabjhcjffkmaaGreatDoorWalA
/- The reference's LockFault, Money, time, Places: the walks. Conditions: named in each theorem. -/
namespace Go.Proofs.YtbpabjhcjffkmaaGreatDoor
open Go.RowKit Go.ChangeShapes Go.WideShapes Go.ChangeAt

set_option maxHeartbeats 40000000 in
set_option maxRecDepth 100000 in
theorem rlk_any (rs : List ROp) (A : Option Addr) (n c : Nat) (w : World) (h : RSl w w.heap.size A n rs) :
  Calls Tryz.prog 13 #[.slice A n c] w (fun e w' => e = .returned (.int .i64 (lkQ (rs.map ROp.pl))) ∧ Below w.heap.size w w') := by
 have hl := h.len
 obtain ⟨Q, hQ⟩ : ∃ Q, Q = lkQ (rs.map ROp.pl) := ⟨_, rfl⟩
 rw [← hQ]
 unfold lkQ at hQ
 rw [List.length_map, hl] at hQ
 have HL := aside hl
 have H := aside h
 have HB0 := aside (Below.refl w.heap.size w)
 clear hl h
 by_cases hbig : 60 < n
 ·have hz : (60 : Int) < (n : Int) := by omega
  obtain rfl : Q = 4 := hQ.trans (if_pos hbig)
  clear hQ hbig
  go_enter Tryz.func13, Tryz.ntmps13
  go_wp2
  go_ret
  exact ⟨rfl, HB0.out⟩
 have hz : (n : Int) ≤ 60 := by omega
 have HQ := aside (hQ.trans (if_neg hbig))
 clear hQ hbig
 have HO0 : Hid (orL ((rs.map ROp.pl).map opP) = orL (((rs.drop 0).map ROp.pl).map opP)) := aside rfl
 go_enter Tryz.func13, Tryz.ntmps13
 go_wp2_with fail
 go_loopw [3] (fun v3 wr => ∃ k : Nat, k ≤ n ∧ v3 = .int .i64 k ∧ Hid (Below w.heap.size w wr) ∧ Hid (orL ((rs.map ROp.pl).map opP) = orL (((rs.drop k).map ROp.pl).map opP))) (fun v3 _ => n - (Go.RowKit.intOf v3).toNat)
 case atStart => exact ⟨0, Nat.zero_le _, rfl, HB0, HO0⟩
 case round =>
  clear HB0 HO0
  obtain ⟨k, hk, rfl, HB, HOr⟩ := hrel
  by_cases hkn : k < n
  ·have k0 : (k : Int) < (n : Int) := by omega
   have hwz := HB.out.size
   obtain ⟨b1, of1, e1, hb1, p0, p1, p2⟩ := (H.out.below HB.out).at_ hkn
   have hm := H.out.mem hkn
   have hdl := YSl.len1 (H.out.data _ hm)
   have hdr : rs.drop k = rs.getD k noR :: rs.drop (k + 1) := by
    rw [List.getD_eq_getElem?_getD, List.getElem?_eq_getElem (by have := HL.out; omega)]
    exact List.drop_eq_getElem_cons (by have := HL.out; omega)
   have hor := HOr.out
   rw [hdr] at hor
   generalize rs.getD k noR = r at *
   have hop : opP r.pl = opQ r.op r.n r.dn := by unfold opP ROp.pl; rw [hdl]
   have hor2 : orL ((rs.map ROp.pl).map opP) = if opQ r.op r.n r.dn ≠ 0 then opQ r.op r.n r.dn else orL (((rs.drop (k + 1)).map ROp.pl).map opP) := by
    rw [hor, ← hop]
    rfl
   have HOn := aside hor2
   have hbb : b1 < wr.heap.size := by omega
   have HC := aside (rop_any r.op r.n r.dA r.dn r.dc wr)
   generalize opQ r.op r.n r.dn = q at HC HOn
   subst e1
   clear hm hdl hdr hor hop hor2 hkn
   go_wp2_with fail
   refine HC.out.mono ?_
   rintro e w3 ⟨rfl, hb3⟩
   have HB3 := aside (HB.out.trans (hb3.mono hwz))
   clear hb3 HC p0 p1 p2
   by_cases hq : q = 0
   ·subst hq
    have HO2 : Hid (orL ((rs.map ROp.pl).map opP) = orL (((rs.drop (k + 1)).map ROp.pl).map opP)) := aside (HOn.out.trans (if_neg (by simp)))
    go_wp2
    exact ⟨⟨k + 1, by omega, by go_num, HB3, HO2⟩, by simp [Go.RowKit.intOf]; omega⟩
   ·have hQq : Q = q := by
     have e9 := HOn.out.trans (if_pos hq)
     rw [HQ.out, e9, if_pos hq]
    subst hQq
    have hq2 : (Q != 0) = true := by simp [hq]
    clear hq
    go_wp2
    go_ret
    exact ⟨rfl, HB3.out⟩
  ·obtain rfl : n = k := by omega
   have i0 : ((n : Int) < (n : Int)) = False := by simp
   have HQ2 : Hid (Q = flowQ (rs.map ROp.pl) []) := aside (by
    have e9 := HOr.out
    rw [List.drop_of_length_le (by have := HL.out; omega)] at e9
    rw [HQ.out, e9]
    exact if_neg (by simp [orL]))
   have hlm : (rs.map ROp.pl).length = n := by rw [List.length_map, HL.out]
   have HLm := aside hlm
   have hend : EndC rs A n c wr 0 := ended_any rs A n c (by omega) wr ((H.out.below HB.out).more HB.out.size) n 0 (by omega) (by omega)
   have HE : Hid (Calls Tryz.prog 44 #[.slice A n c, .int .i64 0] wr (fun e w' => ∃ r : Int, e = .returned (.int .i64 r) ∧ EndOk (rs.map ROp.pl) 0 r ∧ w' = wr)) := aside hend
   clear HQ HOr hkn hlm hend
   go_wp2_with fail
   refine HE.out.mono ?_
   rintro e w3 ⟨r, rfl, hr, hw3⟩
   rw [hw3]
   clear hw3 w3
   have hf := HQ2.out.trans (end_flow hr)
   rw [HLm.out] at hf
   clear hr HE HQ2
   by_cases hrn : r = (n : Int)
   ·have hne : (r != (n : Int)) = false := by simp [hrn]
    obtain rfl : Q = 0 := hf.trans (if_pos hrn)
    clear hf hrn
    go_wp2
    go_ret
    exact ⟨rfl, HB.out⟩
   ·have hne : (r != (n : Int)) = true := by simp [hrn]
    obtain rfl : Q = 1 := hf.trans (if_neg hrn)
    clear hf hrn
    go_wp2
    go_ret
    exact ⟨rfl, HB.out⟩
theorem rmoney_any (a : Int) (w : World) : Calls Tryz.prog 12 #[.int .i64 a] w (fun e w' => e = .returned (.bool (decide (0 ≤ a ∧ a ≤ 1125899906842624))) ∧ w' = w) := by
 by_cases e1 : 0 ≤ a
 ·by_cases e2 : a ≤ 1125899906842624
  ·rw [decide_eq_true ⟨e1, e2⟩]
   go_enter Tryz.func12, Tryz.ntmps12
   go_wp2
   go_ret
   exact ⟨by simp, rfl⟩
  ·rw [decide_eq_false (by omega)]
   have e3 : (a ≤ 1125899906842624) = False := by simp [e2]
   go_enter Tryz.func12, Tryz.ntmps12
   go_wp2
   go_ret
   exact ⟨by simp, rfl⟩
 ·rw [decide_eq_false (by omega)]
  have e3 : (0 ≤ a) = False := by simp [e1]
  go_enter Tryz.func12, Tryz.ntmps12
  go_wp2
  go_ret
  exact ⟨by simp, rfl⟩
theorem rtime_any (a : Int) (w : World) : Calls Tryz.prog 90 #[.int .i64 a] w (fun e w' => e = .returned (.bool (decide (0 ≤ a ∧ a ≤ 1073741824))) ∧ w' = w) := by
 by_cases e1 : 0 ≤ a
 ·by_cases e2 : a ≤ 1073741824
  ·rw [decide_eq_true ⟨e1, e2⟩]
   go_enter Tryz.func90, Tryz.ntmps90
   go_wp2
   go_ret
   exact ⟨by simp, rfl⟩
  ·rw [decide_eq_false (by omega)]
   have e3 : (a ≤ 1073741824) = False := by simp [e2]
   go_enter Tryz.func90, Tryz.ntmps90
   go_wp2
   go_ret
   exact ⟨by simp, rfl⟩
 ·rw [decide_eq_false (by omega)]
  have e3 : (0 ≤ a) = False := by simp [e1]
  go_enter Tryz.func90, Tryz.ntmps90
  go_wp2
  go_ret
  exact ⟨by simp, rfl⟩
theorem cmpY_cons {x y : Nat} (hx : x < 256) (hy : y < 256) (xs ys : List Nat) : cmpY (x :: xs) (y :: ys) = if x < y then -1 else if y < x then 1 else cmpY xs ys := by
 show (if UInt8.ofNat (Int.ofNat x).toNat < UInt8.ofNat (Int.ofNat y).toNat then (-1 : Int) else if UInt8.ofNat (Int.ofNat y).toNat < UInt8.ofNat (Int.ofNat x).toNat then 1 else cmpY xs ys) = _
 simp only [UInt8.lt_iff_toNat_lt, UInt8.toNat_ofNat', Int.ofNat_eq_natCast, Int.toNat_natCast, Nat.reducePow, Nat.mod_eq_of_lt hx, Nat.mod_eq_of_lt hy]
theorem drop_at {xs : List Nat} {k : Nat} (h : k < xs.length) : xs.drop k = xs.getD k 0 :: xs.drop (k + 1) := by
 rw [List.getD_eq_getElem?_getD, List.getElem?_eq_getElem h]
 exact List.drop_eq_getElem_cons h
theorem getD_small {xs : List Nat} (h : ∀ x ∈ xs, x < 256) {k : Nat} (hk : k < xs.length) : xs.getD k 0 < 256 := by
 rw [List.getD_eq_getElem?_getD, List.getElem?_eq_getElem hk]
 exact h _ (List.getElem_mem hk)
set_option maxHeartbeats 20000000 in
set_option maxRecDepth 100000 in
theorem rplaces_any (tx tx' : List Nat) (at_ at' : Int) (hx : tx.length = 32) (hx' : tx'.length = 32) (hb : ∀ x ∈ tx, x < 256) (hb' : ∀ x ∈ tx', x < 256) (w : World) :
  Calls Tryz.prog 89 #[.agg (plC tx at_).toArray, .agg (plC tx' at').toArray] w (fun e w' => e = .returned (.int .i64 (cmpP tx at_ tx' at')) ∧ Below w.heap.size w w') := by
 obtain ⟨R, hR⟩ : ∃ R, R = cmpP tx at_ tx' at' := ⟨_, rfl⟩
 rw [← hR]
 have HR0 : Hid (R = orL [cmpY (tx.drop 0) (tx'.drop 0), cmpI at_ at']) := aside hR
 have B1 : Hid (Below w.heap.size w ((w.alloc (.cells (plC tx at_).toArray 55)).alloc (.cells (plC tx' at').toArray 55))) := aside (((Below.refl _ _).alloc (Nat.le_refl _) _).alloc (by simp) _)
 have D0 : Hid (((w.alloc (.cells (plC tx at_).toArray 55)).alloc (.cells (plC tx' at').toArray 55)).heap[w.heap.size]? = some (.cells (plC tx at_).toArray 55 (0, 0))) := aside ((Below.heap_alloc _ _ _ (by simp)).trans (heap_alloc_new w _))
 have D1 : Hid (((w.alloc (.cells (plC tx at_).toArray 55)).alloc (.cells (plC tx' at').toArray 55)).heap[w.heap.size + 1]? = some (.cells (plC tx' at').toArray 55 (0, 0))) := aside (by
  have h := heap_alloc_new (w.alloc (.cells (plC tx at_).toArray 55)) (.cells (plC tx' at').toArray 55)
  rwa [show (w.alloc (.cells (plC tx at_).toArray 55)).heap.size = w.heap.size + 1 by simp] at h)
 have HX := aside hx
 have HX' := aside hx'
 have HS := aside hb
 have HS' := aside hb'
 clear hR hx hx' hb hb'
 go_enter Tryz.func89, Tryz.ntmps89
 go_wp2_with fail
 change Code.wp _ _ _ _ ((w.alloc (.cells (plC tx at_).toArray 55)).alloc (.cells (plC tx' at').toArray 55))
 generalize ((w.alloc (.cells (plC tx at_).toArray 55)).alloc (.cells (plC tx' at').toArray 55)) = w1 at B1 D0 D1 ⊢
 obtain ⟨B0, hB0⟩ : ∃ B0, B0 = w.heap.size := ⟨_, rfl⟩
 simp only [← hB0] at D0 D1 ⊢
 clear hB0
 have p0 : w1.cell? ⟨B0, 32, none⟩ = some (.int .i64 at_) := by rw [cell_of_row _ _ 32 _ _ _ D0.out, List.getElem?_toArray]; exact plC_at _ _
 have p1 : w1.cell? ⟨B0 + 1, 32, none⟩ = some (.int .i64 at') := by rw [cell_of_row _ _ 32 _ _ _ D1.out, List.getElem?_toArray]; exact plC_at _ _
 have Y0 : Hid (∀ k, k < 32 → w1.cell? ⟨B0, k, none⟩ = some (.int .u8 ((tx.getD k 0 : Nat) : Int))) := aside fun k hk => by
  rw [cell_of_row _ _ k _ _ _ D0.out, List.getElem?_toArray]
  exact plC_tx _ _ hk
 have Y1 : Hid (∀ k, k < 32 → w1.cell? ⟨B0 + 1, k, none⟩ = some (.int .u8 ((tx'.getD k 0 : Nat) : Int))) := aside fun k hk => by
  rw [cell_of_row _ _ k _ _ _ D1.out, List.getElem?_toArray]
  exact plC_tx _ _ hk
 clear D0 D1
 go_loopw [5] (fun v5 wr => ∃ (k q : Nat), k ≤ 32 ∧ v5 = .int .i64 k ∧ wr = w1.drewN q ∧ Hid (R = orL [cmpY (tx.drop k) (tx'.drop k), cmpI at_ at'])) (fun v5 _ => 32 - (Go.RowKit.intOf v5).toNat)
 case atStart => exact ⟨0, 0, Nat.zero_le _, rfl, rfl, HR0⟩
 case round =>
  clear HR0
  obtain ⟨k, q, hk, rfl, rfl, HR⟩ := hrel
  by_cases hkn : k < 32
  ·have k0 : (k : Int) < 32 := by omega
   have k1 : (0 : Int) ≤ (k : Int) := by omega
   have c0 := Y0.out k hkn
   have c1 := Y1.out k hkn
   have hq := HR.out
   rw [drop_at (xs := tx) (by rw [HX.out]; exact hkn), drop_at (xs := tx') (by rw [HX'.out]; exact hkn), cmpY_cons (getD_small HS.out (by rw [HX.out]; exact hkn)) (getD_small HS'.out (by rw [HX'.out]; exact hkn))] at hq
   generalize tx.getD k 0 = x at c0 hq
   generalize tx'.getD k 0 = y at c1 hq
   have HQ := aside hq
   clear hq hkn
   by_cases h1 : x < y
   ·obtain rfl : R = -1 := by rw [HQ.out, if_pos h1]; rfl
    have h2 : (x : Int) < (y : Int) := by omega
    clear HQ HR h1
    go_wp2_with fail
    go_quiet (fail)
    go_wp2
    go_ret
    exact ⟨rfl, by first | exact below_drawn B1.out _ | exact below_drawn (below_drawn B1.out _) _ | exact below_drawn (below_drawn (below_drawn B1.out _) _) _⟩
   ·have h2 : ((x : Int) < (y : Int)) = False := by simp only [eq_iff_iff, iff_false]; omega
    by_cases h3 : y < x
    ·obtain rfl : R = 1 := by rw [HQ.out, if_neg h1, if_pos h3]; rfl
     have h4 : (y : Int) < (x : Int) := by omega
     clear HQ HR h1 h3
     go_wp2_with fail
     go_quiet (fail)
     go_wp2_with fail
     go_quiet (fail)
     go_wp2
     go_ret
     exact ⟨rfl, by first | exact below_drawn B1.out _ | exact below_drawn (below_drawn B1.out _) _ | exact below_drawn (below_drawn (below_drawn B1.out _) _) _⟩
    ·have h4 : ((y : Int) < (x : Int)) = False := by simp only [eq_iff_iff, iff_false]; omega
     have HR2 : Hid (R = orL [cmpY (tx.drop (k + 1)) (tx'.drop (k + 1)), cmpI at_ at']) := aside (by rw [HQ.out, if_neg h1, if_neg h3])
     clear HQ HR h1 h3
     go_wp2_with fail
     go_quiet (fail)
     go_wp2_with fail
     go_quiet (fail)
     go_wp2
     exact ⟨⟨k + 1, _, by omega, by go_num, by first | rfl | rw [World.drewN_drewN], HR2⟩, by simp [Go.RowKit.intOf]; omega⟩
  ·obtain rfl : k = 32 := by omega
   have hq : R = if cmpI at_ at' ≠ 0 then cmpI at_ at' else 0 := by
    rw [HR.out, List.drop_of_length_le (by rw [HX.out]; exact Nat.le_refl _), List.drop_of_length_le (by rw [HX'.out]; exact Nat.le_refl _)]
    rfl
   unfold cmpI at hq
   clear HR hkn
   by_cases h1 : at_ < at'
   ·obtain rfl : R = -1 := by rw [hq, if_pos h1]; rfl
    clear hq
    go_wp2
    go_ret
    exact ⟨rfl, by first | exact below_drawn B1.out _ | exact below_drawn (below_drawn B1.out _) _ | exact below_drawn (below_drawn (below_drawn B1.out _) _) _⟩
   ·by_cases h3 : at' < at_
    ·obtain rfl : R = 1 := by rw [hq, if_neg h1, if_pos h3]; rfl
     have h1' : (at_ < at') = False := by simp [h1]
     clear hq h1
     go_wp2
     go_ret
     exact ⟨rfl, by first | exact below_drawn B1.out _ | exact below_drawn (below_drawn B1.out _) _ | exact below_drawn (below_drawn (below_drawn B1.out _) _) _⟩
    ·obtain rfl : R = 0 := by rw [hq, if_neg h1, if_neg h3]; rfl
     have h1' : (at_ < at') = False := by simp [h1]
     have h3' : (at' < at_) = False := by simp [h3]
     clear hq h1 h3
     go_wp2
     go_ret
     exact ⟨rfl, by first | exact below_drawn B1.out _ | exact below_drawn (below_drawn B1.out _) _ | exact below_drawn (below_drawn (below_drawn B1.out _) _) _⟩
end Go.Proofs.YtbpabjhcjffkmaaGreatDoor

/- wallet.checked, wallet.Balance: the walks. Conditions: named in each theorem. -/
namespace Go.Proofs.YtbpabjhcjffkmaaGreatDoor
open Go.RowKit Go.ChangeShapes Go.WideShapes Go.ChangeAt

def chQ (n : Int) (cs : List RCoin) : Int := if n < 1 ∨ 100 < n then 2 else setQ cs
set_option maxHeartbeats 20000000 in
set_option maxRecDepth 100000 in
theorem checked_any (n : Int) (cs : List RCoin) (A : Option Addr) (m c : Nat) (w : World) (h : CSl w w.heap.size A m cs) :
  Calls Tryz.prog 27 #[.int .i64 n, .slice A m c] w (fun e w' => e = .returned (errP (chQ n cs)) ∧ Below w.heap.size w w') := by
 have HC := aside (check_any cs A m c w h)
 obtain ⟨Q, hQ⟩ : ∃ Q, Q = chQ n cs := ⟨_, rfl⟩
 rw [← hQ]
 unfold chQ at hQ
 clear h
 by_cases h1 : n < 1
 ·obtain rfl : Q = 2 := hQ.trans (if_pos (.inl h1))
  clear hQ
  go_enter Tryz.func27, Tryz.ntmps27
  go_wp2
  go_ret
  exact ⟨rfl, Below.refl _ _⟩
 have h1' : 1 ≤ n := by omega
 by_cases h2 : 100 < n
 ·obtain rfl : Q = 2 := hQ.trans (if_pos (.inr h2))
  clear hQ h1
  go_enter Tryz.func27, Tryz.ntmps27
  go_wp2
  go_ret
  exact ⟨rfl, Below.refl _ _⟩
 have h2' : n ≤ 100 := by omega
 obtain rfl : Q = setQ cs := hQ.trans (if_neg (by omega))
 clear hQ h1 h2
 generalize setQ cs = q at HC ⊢
 go_enter Tryz.func27, Tryz.ntmps27
 go_wp2_with fail
 refine HC.out.mono ?_
 rintro e w3 ⟨rfl, hb3⟩
 have HB3 := aside hb3
 clear hb3
 go_wp2
 go_ret
 exact ⟨rfl, HB3.out⟩
end Go.Proofs.YtbpabjhcjffkmaaGreatDoor

/- The reference's SetFault, KeysFault: the walks. Conditions: named in each theorem. -/
namespace Go.Proofs.YtbpabjhcjffkmaaGreatDoor
open Go.RowKit Go.ChangeShapes Go.WideShapes Go.ChangeAt

set_option maxHeartbeats 40000000 in
set_option maxRecDepth 100000 in
theorem rset_any (cs : List RCoin) (A : Option Addr) (n c : Nat) (w : World) (h : CSl w w.heap.size A n cs) (hb : ∀ r ∈ cs, ∀ x ∈ r.tx, x < 256) :
  Calls Tryz.prog 42 #[.slice A n c] w (fun e w' => e = .returned (.int .i64 (setQ cs)) ∧ Below w.heap.size w w') := by
 have hl := h.len
 obtain ⟨Q, hQ⟩ : ∃ Q, Q = setQ cs := ⟨_, rfl⟩
 rw [← hQ]
 unfold setQ at hQ
 rw [hl] at hQ
 have HL := aside hl
 have H := aside h
 have HBy := aside hb
 have HB0 := aside (Below.refl w.heap.size w)
 clear hl h hb
 by_cases hbig : 1000 < n
 ·have hz : (1000 : Int) < (n : Int) := by omega
  obtain rfl : Q = 4 := hQ.trans (if_pos hbig)
  clear hQ hbig
  go_enter Tryz.func42, Tryz.ntmps42
  go_wp2
  go_ret
  exact ⟨rfl, HB0.out⟩
 have hz : (n : Int) ≤ 1000 := by omega
 have HQ0 : Hid (Q = chkQ (prevC cs 0) (cs.drop 0)) := aside (hQ.trans (if_neg hbig))
 clear hQ hbig
 go_enter Tryz.func42, Tryz.ntmps42
 go_wp2_with fail
 go_loopw [3] (fun v3 wr => ∃ k : Nat, k ≤ n ∧ v3 = .int .i64 k ∧ Hid (Below w.heap.size w wr) ∧ Hid (Q = chkQ (prevC cs k) (cs.drop k))) (fun v3 _ => n - (Go.RowKit.intOf v3).toNat)
 case atStart => exact ⟨0, Nat.zero_le _, rfl, HB0, HQ0⟩
 case round =>
  clear HB0 HQ0
  obtain ⟨k, hk, rfl, HB, HQ⟩ := hrel
  by_cases hkn : k < n
  ·have k0 : (k : Int) < (n : Int) := by omega
   have hwz := HB.out.size
   have hCB := H.out.below HB.out
   have HCB := aside hCB
   obtain ⟨b, of, hAe, hb1, hrg⟩ := hCB.at_ hkn
   have hm := hCB.mem hkn
   have hlk := H.out.lock _ hm
   have htx := hCB.tx _ hm
   have hby := HBy.out _ hm
   have hdr : cs.drop k = cs.getD k noC :: cs.drop (k + 1) := by
    rw [List.getD_eq_getElem?_getD, List.getElem?_eq_getElem (by have := HL.out; omega)]
    exact List.drop_eq_getElem_cons (by have := HL.out; omega)
   have hq := HQ.out
   rw [hdr] at hq
   have hnx : prevC cs (k + 1) = some (cs.getD k noC) := rfl
   generalize cs.getD k noC = r at *
   have HRg := aside hrg
   have HLk := aside hlk
   have HTx := aside htx
   have HTb := aside hby
   have HQq := aside hq
   have HNx := aside hnx
   have hbl : b < wr.heap.size := by omega
   have HS9 : Hid ((Tryz.prog.info? 57).map (·.size) = some (encC r).toArray.size) := aside (by simp only [List.size_toArray, encC_len]; kernel_rfl)
   have HS8 : Hid ((encC noC).toArray.size = (encC r).toArray.size) := aside (by simp only [List.size_toArray, encC_len])
   have HO1 : Hid ((encC r).toArray.all (·.oneCell') = true) := aside (all_oneCell_toArray (encC_one r))
   have DX : Hid ((wr.alloc (.cells (encC noC).toArray 57)).heap[wr.heap.size]? = some (.cells (encC noC).toArray 57 (0, 0))) := aside (heap_alloc_new _ _)
   have HS1 : Hid ((Tryz.prog.info? 57).map (·.size) = some (encC r).length) := aside (by rw [encC_len]; kernel_rfl)
   subst hAe
   clear hrg hlk htx hby hq hdr hnx hm hCB hkn
   go_upto_region 7 with (first
    | (refine wpList_load_mid rfl 57 (.tmp 17) rfl b (of + k * 36) rfl (encC r) _ HRg.out Tryz.underlying57 rfl HS1.out ?_)
    | (refine wpList_store_row rfl 57 (.tmp 4) (.tmp 18) rfl wr.heap.size (encC r).toArray rfl rfl 57 (encC noC).toArray DX.out HS9.out HS8.out HO1.out ?_)
    | fail)
   have HB2 : Hid (Below w.heap.size w ((wr.alloc (.cells (encC noC).toArray 57)).setRow wr.heap.size (encC r).toArray)) := aside (below_setRow (HB.out.alloc HB.out.size _) _ HB.out.size _)
   have DX2 : Hid (((wr.alloc (.cells (encC noC).toArray 57)).setRow wr.heap.size (encC r).toArray).heap[wr.heap.size]? = some (.cells (encC r).toArray 57 (0, 0))) := aside (setRow_heap _ _ _ _ _ _ DX.out)
   change Code.wp _ _ _ _ ((wr.alloc (.cells (encC noC).toArray 57)).setRow wr.heap.size (encC r).toArray)
   generalize ((wr.alloc (.cells (encC noC).toArray 57)).setRow wr.heap.size (encC r).toArray) = w2 at HB2 DX2 ⊢
   obtain ⟨bx, hbx⟩ : ∃ bx, bx = wr.heap.size := ⟨_, rfl⟩
   have hbxw : w.heap.size ≤ bx := by omega
   rw [← hbx] at DX2 ⊢
   have HC2 := aside (H.out.below HB2.out)
   have HLk2 : Hid (RSl w2 w2.heap.size r.lA r.ln r.lk) := aside ((HLk.out.below HB2.out).more HB2.out.size)
   clear hbx DX HS8 HO1 HS9 HS1 HRg HB HCB hbl hwz HLk
   obtain ⟨D, hD⟩ : ∃ D : Bool, D = match prevC cs k with
    | none => false
    | some p => decide (0 ≤ cmpP p.tx p.at_ r.tx r.at_) := ⟨_, rfl⟩
   have HDq : Hid ((D = true → Q = 6) ∧ (D = false → Q = if coinQ r ≠ 0 then coinQ r else chkQ (prevC cs (k + 1)) (cs.drop (k + 1)))) := aside (by
    have hq := HQq.out
    rw [HNx.out]
    cases hp : prevC cs k with
    | none =>
     rw [hp] at hD hq
     exact ⟨fun h => (by rw [hD] at h; cases h), fun _ => hq⟩
    | some p =>
     rw [hp] at hD hq
     have hq2 : Q = if 0 ≤ cmpP p.tx p.at_ r.tx r.at_ then 6 else if coinQ r ≠ 0 then coinQ r else chkQ (some r) (cs.drop (k + 1)) := hq
     refine ⟨fun h => ?_, fun h => ?_⟩
     ·rw [hD] at h
      exact hq2.trans (if_pos (of_decide_eq_true h))
     ·rw [hD] at h
      exact hq2.trans (if_neg (of_decide_eq_false h)))
   have HD := aside hD
   have hl2 : bx < w2.heap.size := (Array.getElem?_eq_some_iff.1 DX2.out).1
   clear hD HQq HQ
   rcases Nat.eq_zero_or_pos k with h0 | hpos
   ·subst h0
    have hDf : D = false := HD.out
    subst hDf
    have HQ2 := aside (HDq.out.2 rfl)
    clear HD HNx
    go_wp2_with fail
    go_quiet (fail)
    have hB3 : Hid (Below w2.heap.size w2 (w2.drewN nq)) := aside (below_drawn (Below.refl _ _) _)
    generalize w2.drewN nq = wc at hB3 ⊢
    have HB3 := aside (HB2.out.trans (hB3.out.mono HB2.out.size))
    have hx := (hB3.out.block bx hl2).trans DX2.out
    have x0 : wc.cell? ⟨bx, 32, none⟩ = some (.int .i64 r.at_) := by rw [cell_of_row _ _ 32 _ _ _ hx, List.getElem?_toArray]; exact encC_at r 0
    have x1 : wc.cell? ⟨bx, 33, none⟩ = some (.int .i64 r.amt) := by rw [cell_of_row _ _ 33 _ _ _ hx, List.getElem?_toArray]; exact encC_at r 1
    have x2 : wc.cell? ⟨bx, 34, none⟩ = some (.slice r.lA r.ln r.lc) := by rw [cell_of_row _ _ 34 _ _ _ hx, List.getElem?_toArray]; exact encC_at r 2
    have x3 : wc.cell? ⟨bx, 35, none⟩ = some (.int .i64 r.ht) := by rw [cell_of_row _ _ 35 _ _ _ hx, List.getElem?_toArray]; exact encC_at r 3
    have HLk3 := aside (HLk2.out.step hB3.out)
    clear hx hB3 HC2 HLk2 DX2 HB2 HTx HTb
    have HCo : Hid (coinQ r = if r.at_ < 0 ∨ 40 ≤ r.at_ ∨ r.ht < 0 ∨ 1073741824 < r.ht then 2 else if moneyE r.amt ≠ 0 then moneyE r.amt else lkQ r.pl) := aside rfl
    have hbad : (r.at_ < 0 ∨ 40 ≤ r.at_ ∨ r.ht < 0 ∨ 1073741824 < r.ht) → Q = 2 := fun hb => by
     have e9 := HCo.out.trans (if_pos hb)
     rw [HQ2.out, e9]
     rfl
    have HBad := aside hbad
    clear hbad HDq
    by_cases h1 : r.at_ < 0
    ·obtain rfl := HBad.out (.inl h1)
     go_wp2
     go_ret
     exact ⟨rfl, HB3.out⟩
    have h1' : (r.at_ < 0) = False := by simp [h1]
    by_cases h2 : 40 ≤ r.at_
    ·obtain rfl := HBad.out (.inr (.inl h2))
     clear h1
     go_wp2
     go_ret
     exact ⟨rfl, HB3.out⟩
    have h2' : (40 ≤ r.at_) = False := by simp [h2]
    have HTm := aside (rtime_any r.ht)
    by_cases h3 : 0 ≤ r.ht ∧ r.ht ≤ 1073741824
    case neg =>
     obtain rfl := HBad.out (by omega)
     rw [decide_eq_false h3] at HTm
     clear h1 h2 h3
     go_wp2_with (first | (go_at_call 90; refine (HTm.out _).mono ?_; rintro e w3 ⟨rfl, hw3⟩; rw [hw3]; clear hw3 w3) | fail)
     go_ret
     exact ⟨rfl, HB3.out⟩
    case pos =>
    have HCo2 := aside (HCo.out.trans (if_neg (by omega)))
    rw [decide_eq_true h3] at HTm
    have HMn := aside (rmoney_any r.amt)
    by_cases h4 : 0 ≤ r.amt ∧ r.amt ≤ 1125899906842624
    case neg =>
     have hm2 : moneyE r.amt = 2 := by unfold moneyE; rw [if_pos (by omega)]
     have hQ2 : Q = 2 := by
      rw [HQ2.out, HCo2.out, hm2]
      rfl
     subst hQ2
     rw [decide_eq_false h4] at HMn
     clear h1 h2 h3 h4 hm2
     go_wp2_with (first | (go_at_call 90; refine (HTm.out _).mono ?_; rintro e w3 ⟨rfl, hw3⟩; rw [hw3]; clear hw3 w3) | (go_at_call 12; refine (HMn.out _).mono ?_; rintro e w3 ⟨rfl, hw3⟩; rw [hw3]; clear hw3 w3) | fail)
     go_ret
     exact ⟨rfl, HB3.out⟩
    case pos =>
    have hm0 : moneyE r.amt = 0 := by unfold moneyE; rw [if_neg (by omega)]
    have HCo3 : Hid (coinQ r = lkQ r.pl) := aside (by rw [HCo2.out, hm0]; rfl)
    rw [decide_eq_true h4] at HMn
    have HLc := aside (rlk_any r.lk r.lA r.ln r.lc wc HLk3.out)
    change Hid (Calls _ _ _ _ (fun e w' => e = .returned (.int .i64 (lkQ r.pl)) ∧ _)) at HLc
    generalize lkQ r.pl = q2 at HCo3 HLc
    clear h1 h2 h3 h4 hm0 HCo HCo2 HBad
    go_wp2_with (first | (go_at_call 90; refine (HTm.out _).mono ?_; rintro e w3 ⟨rfl, hw3⟩; rw [hw3]; clear hw3 w3) | (go_at_call 12; refine (HMn.out _).mono ?_; rintro e w3 ⟨rfl, hw3⟩; rw [hw3]; clear hw3 w3) | fail)
    refine HLc.out.mono ?_
    rintro e w4 ⟨rfl, hb4⟩
    have HB4 := aside (HB3.out.trans (hb4.mono HB3.out.size))
    clear hb4 HLc x0 x1 x2 x3
    by_cases hq2 : q2 = 0
    ·subst hq2
     have HQ3 : Hid (Q = chkQ (prevC cs (0 + 1)) (cs.drop (0 + 1))) := aside (HQ2.out.trans (if_neg (by rw [HCo3.out]; simp)))
     go_wp2
     exact ⟨⟨0 + 1, by omega, by go_num, HB4, HQ3⟩, by simp [Go.RowKit.intOf]; omega⟩
    ·have hQq : Q = q2 := by
      rw [HQ2.out, HCo3.out, if_pos hq2]
     subst hQq
     have hq3 : (Q != 0) = true := by simp [hq2]
     clear hq2
     go_wp2
     go_ret
     exact ⟨rfl, HB4.out⟩
   ·obtain ⟨k', hkk⟩ : ∃ k', k = k' + 1 := ⟨k - 1, by omega⟩
    have hk' : k' < n := by omega
    rw [hkk] at HD
    obtain ⟨b', of', e', -, hrg'⟩ := HC2.out.at_ hk'
    injection e' with e'
    injection e' with e1 e2
    have hm' := HC2.out.mem hk'
    have htx' := HC2.out.tx _ hm'
    have hby' := HBy.out _ hm'
    have hDp : D = decide (0 ≤ cmpP (cs.getD k' noC).tx (cs.getD k' noC).at_ r.tx r.at_) := HD.out
    generalize cs.getD k' noC = p at *
    rw [← e1, ← e2] at hrg'
    have hP1 := range_place hrg'
    have hP2 : w2.rangeAt bx 0 (plC r.tx r.at_) := fun j v hj => by
     rw [Nat.zero_add, cell_of_row _ _ j _ _ _ DX2.out, List.getElem?_toArray]
     exact encC_pl r hj
    have hinfo : (Tryz.prog.info? 55).map (·.size) = some 33 := by kernel_rfl
    have hbw : b < w2.heap.size := by have := HB2.out.size; omega
    have HCm := aside (rplaces_any p.tx r.tx p.at_ r.at_ htx' HTx.out hby' HTb.out)
    generalize cmpP p.tx p.at_ r.tx r.at_ = R at HCm hDp
    have hsub : IntKind.i64.wrap ((k : Int) - 1) = (k' : Int) := by rw [IntKind.wrap_i64]; omega
    have hk0 : (0 : Int) < (k : Int) := by omega
    have hk0n : 0 < k := hpos
    have hk1 : (k' : Int) < (n : Int) := by omega
    have HDp := aside hDp
    have HP1 := aside hP1
    have HP2 := aside hP2
    have HIn : Hid ((Tryz.prog.info? 55).map (·.size) = some 33) := aside hinfo
    clear hrg' hm' htx' hby' hDp e1 e2 hinfo hP1 hP2 HNx HD hkk
    refine wp_region_noPanic ?_
    refine wp_region_held_drew (S := (fun w' => Below w2.heap.size w2 w')) (by kernel_rfl) (below_drawn (Below.refl _ _) 1) (fun hS => ?_)
    refine tkH (i := 0) (v := ?_) rfl (by kernel_rfl) (fun _ _ _ h => h) (Or.inl ⟨by rfl, ?_⟩) hS ?_
    rotate_left
    ·(intro W hSw; (try dsimp only at hSw); go_simp; try with_reducible rfl)
    (repeat (first | simp only [q1] | simp only [q2] | simp only [q3] | simp only [Act.put] | simp only [q4] | simp only [q5] | simp only [q6]))
    refine tkH (i := 1) (v := ?_) rfl (by kernel_rfl) (fun _ _ _ h => h) (Or.inl ⟨by rfl, ?_⟩) hS ?_
    rotate_left
    ·(intro W hSw; (try dsimp only at hSw); go_simp; try with_reducible rfl)
    (repeat (first | simp only [q1] | simp only [q2] | simp only [q3] | simp only [Act.put] | simp only [q4] | simp only [q5] | simp only [q6]))
    refine tkH (i := 2) (v := ?_) rfl (by kernel_rfl) (fun _ _ _ h => h) (Or.inl ⟨by rfl, ?_⟩) hS ?_
    rotate_left
    ·(intro W hSw; (try dsimp only at hSw); go_simp; try with_reducible rfl)
    (repeat (first | simp only [q1] | simp only [q2] | simp only [q3] | simp only [Act.put] | simp only [q4] | simp only [q5] | simp only [q6]))
    refine tkH (i := 3) (v := ?_) rfl (by kernel_rfl) (fun _ _ _ h => h) (Or.inl ⟨by rfl, ?_⟩) hS ?_
    rotate_left
    ·(intro W hSw; (try dsimp only at hSw); go_simp; try with_reducible rfl)
    (repeat (first | simp only [q1] | simp only [q2] | simp only [q3] | simp only [Act.put] | simp only [q4] | simp only [q5] | simp only [q6]))
    refine tkH (i := 4) (v := ?_) rfl (by kernel_rfl) (fun _ _ _ h => h) (Or.inl ⟨by rfl, ?_⟩) hS ?_
    rotate_left
    ·(intro W hSw; (try dsimp only at hSw); go_simp; try with_reducible rfl)
    (repeat (first | simp only [q1] | simp only [q2] | simp only [q3] | simp only [Act.put] | simp only [q4] | simp only [q5] | simp only [q6]))
    refine tkH (i := 5) (v := ?_) rfl (by kernel_rfl) (fun _ _ _ h => h) (Or.inl ⟨by rfl, ?_⟩) hS ?_
    rotate_left
    ·(intro W hSw; (try dsimp only at hSw); go_simp; try with_reducible rfl)
    (repeat (first | simp only [q1] | simp only [q2] | simp only [q3] | simp only [Act.put] | simp only [q4] | simp only [q5] | simp only [q6]))
    refine tkH (i := 6) (v := ?_) rfl (by kernel_rfl) (fun _ _ _ h => h) (Or.inl ⟨by rfl, ?_⟩) hS ?_
    rotate_left
    ·(intro W hSw; (try dsimp only at hSw); go_simp; try with_reducible rfl)
    (repeat (first | simp only [q1] | simp only [q2] | simp only [q3] | simp only [Act.put] | simp only [q4] | simp only [q5] | simp only [q6]))
    refine tkH (i := 7) (v := ?_) rfl (by kernel_rfl) (fun _ _ _ h => h) (Or.inl ⟨by rfl, ?_⟩) hS ?_
    rotate_left
    ·(intro W hSw; (try dsimp only at hSw); go_simp; try with_reducible rfl)
    (repeat (first | simp only [q1] | simp only [q2] | simp only [q3] | simp only [Act.put] | simp only [q4] | simp only [q5] | simp only [q6]))
    refine tkH (i := 8) (v := _) rfl (by kernel_rfl) (fun _ _ _ h => h) (yieldsIf_load_mid (by rfl) _ _ rfl b (of + k' * 36) rfl (plC p.tx p.at_) _ (fun W hW => range_below HP1.out hW hbw) Tryz.underlying55 rfl (by rw [plC_len]; exact HIn.out)) hS ?_
    (repeat (first | simp only [q1] | simp only [q2] | simp only [q3] | simp only [Act.put] | simp only [q4] | simp only [q5] | simp only [q6]))
    refine tkH (i := 9) (v := ?_) rfl (by kernel_rfl) (fun _ _ _ h => h) (Or.inl ⟨by rfl, ?_⟩) hS ?_
    rotate_left
    ·(intro W hSw; (try dsimp only at hSw); go_simp; try with_reducible rfl)
    (repeat (first | simp only [q1] | simp only [q2] | simp only [q3] | simp only [Act.put] | simp only [q4] | simp only [q5] | simp only [q6]))
    refine tkH (i := 10) (v := _) rfl (by kernel_rfl) (fun _ _ _ h => h) (yieldsIf_load_mid (by rfl) _ _ rfl bx 0 rfl (plC r.tx r.at_) _ (fun W hW => range_below HP2.out hW hl2) Tryz.underlying55 rfl (by rw [plC_len]; exact HIn.out)) hS ?_
    (repeat (first | simp only [q1] | simp only [q2] | simp only [q3] | simp only [Act.put] | simp only [q4] | simp only [q5] | simp only [q6]))
    refine oneL (i := 11) (by kernel_rfl) rfl ?_
    (repeat (first | simp only [q1] | simp only [q2] | simp only [q3]))
    go_wp2_with (first
     | (go_at_call 89; refine (HCm.out _).mono ?_; rintro e w3 ⟨rfl, hb3⟩; have hS3 : Below w2.heap.size w2 w3 := hS.trans hb3; have HS3 := aside hS3; clear hb3 hS3)
     | fail)
    change _ ∧ _
    refine ⟨HS3.out, ?_⟩
    (try dsimp only)
    (repeat (first | simp only [q1] | simp only [q2] | simp only [q3] | simp only [Act.put] | simp only [q4] | simp only [q5] | simp only [q6]))
    refine tkH (i := 12) (v := ?_) rfl (by kernel_rfl) (fun _ _ _ h => h) (Or.inl ⟨by rfl, ?_⟩) HS3.out ?_
    rotate_left
    ·(intro W hSw; (try dsimp only at hSw); go_simp; try with_reducible rfl)
    (repeat (first | simp only [q1] | simp only [q2] | simp only [q3] | simp only [Act.put] | simp only [q4] | simp only [q5] | simp only [q6]))
    refine tkH (i := 13) (v := ?_) rfl (by kernel_rfl) (fun _ _ _ h => h) (Or.inl ⟨by rfl, ?_⟩) HS3.out ?_
    rotate_left
    ·(intro W hSw; (try dsimp only at hSw); go_simp; try with_reducible rfl)
    (repeat (first | simp only [q1] | simp only [q2] | simp only [q3] | simp only [Act.put] | simp only [q4] | simp only [q5] | simp only [q6]))
    refine wpAnyH_done (by kernel_rfl) ?_ _
    refine NoPanic.normal ?_
    have hB3 := HS3
    generalize w3 = wc at hB3 ⊢
    clear HS3 hS
    by_cases hR : 0 ≤ R
    ·have hQ6 : Q = 6 := HDq.out.1 (by rw [HDp.out]; exact decide_eq_true hR)
     subst hQ6
     have HB3 := aside (HB2.out.trans (hB3.out.mono HB2.out.size))
     rw [decide_eq_true hR]
     go_wp2
     go_ret
     exact ⟨rfl, HB3.out⟩
    ·rw [decide_eq_false hR]
     have HQ2 := aside (HDq.out.2 (by rw [HDp.out]; exact decide_eq_false hR))
     clear hR HDp HCm HP1 HP2 HIn
     have HB3 := aside (HB2.out.trans (hB3.out.mono HB2.out.size))
     have hx := (hB3.out.block bx hl2).trans DX2.out
     have x0 : wc.cell? ⟨bx, 32, none⟩ = some (.int .i64 r.at_) := by rw [cell_of_row _ _ 32 _ _ _ hx, List.getElem?_toArray]; exact encC_at r 0
     have x1 : wc.cell? ⟨bx, 33, none⟩ = some (.int .i64 r.amt) := by rw [cell_of_row _ _ 33 _ _ _ hx, List.getElem?_toArray]; exact encC_at r 1
     have x2 : wc.cell? ⟨bx, 34, none⟩ = some (.slice r.lA r.ln r.lc) := by rw [cell_of_row _ _ 34 _ _ _ hx, List.getElem?_toArray]; exact encC_at r 2
     have x3 : wc.cell? ⟨bx, 35, none⟩ = some (.int .i64 r.ht) := by rw [cell_of_row _ _ 35 _ _ _ hx, List.getElem?_toArray]; exact encC_at r 3
     have HLk3 := aside (HLk2.out.step hB3.out)
     clear hx hB3 HC2 HLk2 DX2 HB2 HTx HTb
     have HCo : Hid (coinQ r = if r.at_ < 0 ∨ 40 ≤ r.at_ ∨ r.ht < 0 ∨ 1073741824 < r.ht then 2 else if moneyE r.amt ≠ 0 then moneyE r.amt else lkQ r.pl) := aside rfl
     have hbad : (r.at_ < 0 ∨ 40 ≤ r.at_ ∨ r.ht < 0 ∨ 1073741824 < r.ht) → Q = 2 := fun hb => by
      have e9 := HCo.out.trans (if_pos hb)
      rw [HQ2.out, e9]
      rfl
     have HBad := aside hbad
     clear hbad HDq
     by_cases h1 : r.at_ < 0
     ·obtain rfl := HBad.out (.inl h1)
      go_wp2
      go_ret
      exact ⟨rfl, HB3.out⟩
     have h1' : (r.at_ < 0) = False := by simp [h1]
     by_cases h2 : 40 ≤ r.at_
     ·obtain rfl := HBad.out (.inr (.inl h2))
      clear h1
      go_wp2
      go_ret
      exact ⟨rfl, HB3.out⟩
     have h2' : (40 ≤ r.at_) = False := by simp [h2]
     have HTm := aside (rtime_any r.ht)
     by_cases h3 : 0 ≤ r.ht ∧ r.ht ≤ 1073741824
     case neg =>
      obtain rfl := HBad.out (by omega)
      rw [decide_eq_false h3] at HTm
      clear h1 h2 h3
      go_wp2_with (first | (go_at_call 90; refine (HTm.out _).mono ?_; rintro e w3 ⟨rfl, hw3⟩; rw [hw3]; clear hw3 w3) | fail)
      go_ret
      exact ⟨rfl, HB3.out⟩
     case pos =>
     have HCo2 := aside (HCo.out.trans (if_neg (by omega)))
     rw [decide_eq_true h3] at HTm
     have HMn := aside (rmoney_any r.amt)
     by_cases h4 : 0 ≤ r.amt ∧ r.amt ≤ 1125899906842624
     case neg =>
      have hm2 : moneyE r.amt = 2 := by unfold moneyE; rw [if_pos (by omega)]
      have hQ2 : Q = 2 := by
       rw [HQ2.out, HCo2.out, hm2]
       rfl
      subst hQ2
      rw [decide_eq_false h4] at HMn
      clear h1 h2 h3 h4 hm2
      go_wp2_with (first | (go_at_call 90; refine (HTm.out _).mono ?_; rintro e w3 ⟨rfl, hw3⟩; rw [hw3]; clear hw3 w3) | (go_at_call 12; refine (HMn.out _).mono ?_; rintro e w3 ⟨rfl, hw3⟩; rw [hw3]; clear hw3 w3) | fail)
      go_ret
      exact ⟨rfl, HB3.out⟩
     case pos =>
     have hm0 : moneyE r.amt = 0 := by unfold moneyE; rw [if_neg (by omega)]
     have HCo3 : Hid (coinQ r = lkQ r.pl) := aside (by rw [HCo2.out, hm0]; rfl)
     rw [decide_eq_true h4] at HMn
     have HLc := aside (rlk_any r.lk r.lA r.ln r.lc wc HLk3.out)
     change Hid (Calls _ _ _ _ (fun e w' => e = .returned (.int .i64 (lkQ r.pl)) ∧ _)) at HLc
     generalize lkQ r.pl = q2 at HCo3 HLc
     clear h1 h2 h3 h4 hm0 HCo HCo2 HBad
     go_wp2_with (first | (go_at_call 90; refine (HTm.out _).mono ?_; rintro e w3 ⟨rfl, hw3⟩; rw [hw3]; clear hw3 w3) | (go_at_call 12; refine (HMn.out _).mono ?_; rintro e w3 ⟨rfl, hw3⟩; rw [hw3]; clear hw3 w3) | fail)
     refine HLc.out.mono ?_
     rintro e w4 ⟨rfl, hb4⟩
     have HB4 := aside (HB3.out.trans (hb4.mono HB3.out.size))
     clear hb4 HLc x0 x1 x2 x3
     by_cases hq2 : q2 = 0
     ·subst hq2
      have HQ3 : Hid (Q = chkQ (prevC cs (k + 1)) (cs.drop (k + 1))) := aside (HQ2.out.trans (if_neg (by rw [HCo3.out]; simp)))
      go_wp2
      exact ⟨⟨k + 1, by omega, by go_num, HB4, HQ3⟩, by simp [Go.RowKit.intOf]; omega⟩
     ·have hQq : Q = q2 := by
       rw [HQ2.out, HCo3.out, if_pos hq2]
      subst hQq
      have hq3 : (Q != 0) = true := by simp [hq2]
      clear hq2
      go_wp2
      go_ret
      exact ⟨rfl, HB4.out⟩
  ·obtain rfl : n = k := by omega
   have i0 : ((n : Int) < (n : Int)) = False := by simp
   have hq : Q = 0 := by
    rw [HQ.out, List.drop_of_length_le (by have := HL.out; omega)]
    cases n <;> rfl
   subst hq
   clear hkn HQ
   go_wp2
   go_ret
   exact ⟨rfl, HB.out⟩
/-- What is wrong with how many keys there are, and a set. -/
theorem rkeys_any (n : Int) (cs : List RCoin) (A : Option Addr) (m c : Nat) (w : World) (h : CSl w w.heap.size A m cs) (hb : ∀ r ∈ cs, ∀ x ∈ r.tx, x < 256) :
  Calls Tryz.prog 11 #[.int .i64 n, .slice A m c] w (fun e w' => e = .returned (.int .i64 (chQ n cs)) ∧ Below w.heap.size w w') := by
 have HC := aside (rset_any cs A m c w h hb)
 obtain ⟨Q, hQ⟩ : ∃ Q, Q = chQ n cs := ⟨_, rfl⟩
 rw [← hQ]
 unfold chQ at hQ
 clear h hb
 by_cases h1 : n < 1
 ·obtain rfl : Q = 2 := hQ.trans (if_pos (.inl h1))
  clear hQ
  go_enter Tryz.func11, Tryz.ntmps11
  go_wp2
  go_ret
  exact ⟨rfl, Below.refl _ _⟩
 have h1' : (n < 1) = False := by simp [h1]
 by_cases h2 : 100 < n
 ·obtain rfl : Q = 2 := hQ.trans (if_pos (.inr h2))
  clear hQ h1
  go_enter Tryz.func11, Tryz.ntmps11
  go_wp2
  go_ret
  exact ⟨rfl, Below.refl _ _⟩
 have h2' : (100 < n) = False := by simp [h2]
 obtain rfl : Q = setQ cs := hQ.trans (if_neg (by omega))
 clear hQ h1 h2
 generalize setQ cs = q at HC ⊢
 go_enter Tryz.func11, Tryz.ntmps11
 go_wp2_with fail
 refine HC.out.mono ?_
 rintro e w3 ⟨rfl, hb3⟩
 have HB3 := aside hb3
 clear hb3
 go_wp2
 go_ret
 exact ⟨rfl, HB3.out⟩
end Go.Proofs.YtbpabjhcjffkmaaGreatDoor

/- The reference's Total and WorthOf: the walks. Conditions: named in each theorem. -/
namespace Go.Proofs.YtbpabjhcjffkmaaGreatDoor
open Go.RowKit Go.ChangeShapes Go.WideShapes Go.ChangeAt

set_option maxHeartbeats 20000000 in
set_option maxRecDepth 100000 in
theorem rtotal_any (zs : List Int) (A : Option Addr) (n c : Nat) (w : World) (h : ISl w w.heap.size A n zs) (hn : n ≤ 1000) :
  Calls Tryz.prog 14 #[.slice A n c] w (fun e w' => e = .returned (.tuple #[.int .i64 (addN zs 0).1, .int .i64 (addN zs 0).2]) ∧ Below w.heap.size w w') := by
 have hl := h.len
 obtain ⟨R, hR⟩ : ∃ R, R = addN zs 0 := ⟨_, rfl⟩
 rw [← hR]
 have HR0 : Hid (R = addN (zs.drop 0) ((0 : Nat) : Int)) := aside hR
 have H := aside h
 have HL := aside hl
 clear h hl hR
 go_enter Tryz.func14, Tryz.ntmps14
 go_wp2_with fail
 go_loopw [4, 5] (fun v4 v5 wr => ∃ k s : Nat, k ≤ n ∧ s ≤ 1125899906842624 ∧ v5 = .int .i64 k ∧ v4 = .int .i64 s ∧ wr = w ∧ Hid (R = addN (zs.drop k) s)) (fun _ v5 _ => n - (Go.RowKit.intOf v5).toNat)
 case atStart => exact ⟨0, 0, Nat.zero_le _, Nat.zero_le _, rfl, rfl, rfl, HR0⟩
 case round =>
  clear HR0
  obtain ⟨k, s, hk, hs, rfl, rfl, hwr, HR⟩ := hrel
  subst hwr
  by_cases hkn : k < n
  ·have k0 : (k : Int) < (n : Int) := by omega
   obtain ⟨b, off, e, hb, hc⟩ := H.out.at_ hkn
   have hdr : zs.drop k = nth zs k :: zs.drop (k + 1) := by
    rw [nth_get (by have := HL.out; omega)]
    exact List.drop_eq_getElem_cons (by have := HL.out; omega)
   have hq := HR.out
   rw [hdr] at hq
   generalize nth zs k = a at *
   have hq2 : R = if moneyE a ≠ 0 then (0, moneyE a) else if 1125899906842624 < (s : Int) + a then (0, 4) else addN (zs.drop (k + 1)) (s + a) := hq
   have HQ := aside hq2
   have HM := aside (rmoney_any a)
   subst e
   clear hq hq2 hdr hkn
   by_cases hm : 0 ≤ a ∧ a ≤ 1125899906842624
   ·have hm0 : moneyE a = 0 := by unfold moneyE; rw [if_neg (by omega)]
    rw [decide_eq_true hm] at HM
    have HQ2 := aside (HQ.out.trans (if_neg (by simp [hm0])))
    obtain ⟨a', rfl⟩ := Int.eq_ofNat_of_zero_le hm.1
    have hw : IntKind.i64.wrap ((s : Int) + (a' : Int)) = (s : Int) + (a' : Int) := by rw [IntKind.wrap_i64]; omega
    by_cases hbig : 1125899906842624 < (s : Int) + (a' : Int)
    ·have hR : R = (0, 4) := HQ2.out.trans (if_pos hbig)
     subst hR
     clear hm hm0 HQ HQ2
     go_wp2_with (first | (go_at_call 12; refine (HM.out _).mono ?_; rintro e w3 ⟨rfl, hw3⟩; rw [hw3]; clear hw3 w3) | fail)
     go_ret2
     exact ⟨rfl, Below.refl _ _⟩
    ·have hb2 : (s : Int) + (a' : Int) ≤ 1125899906842624 := by omega
     have hb3 : (1125899906842624 < (s : Int) + (a' : Int)) = False := by simp [hbig]
     have HR2 : Hid (R = addN (zs.drop (k + 1)) ((s + a' : Nat) : Int)) := aside (HQ2.out.trans (by rw [if_neg hbig, Int.natCast_add]))
     clear hm hm0 HQ HQ2 hbig
     go_wp2_with (first | (go_at_call 12; refine (HM.out _).mono ?_; rintro e w3 ⟨rfl, hw3⟩; rw [hw3]; clear hw3 w3) | fail)
     exact ⟨⟨k + 1, s + a', by omega, by omega, by go_num, by simp, by trivial, HR2⟩, by simp [Go.RowKit.intOf]; omega⟩
   ·have hm2 : moneyE a = 2 := by unfold moneyE; rw [if_pos (by omega)]
    rw [decide_eq_false hm] at HM
    have hR : R = (0, 2) := HQ.out.trans (by rw [hm2]; rfl)
    subst hR
    clear hm hm2 HQ
    go_wp2_with (first | (go_at_call 12; refine (HM.out _).mono ?_; rintro e w3 ⟨rfl, hw3⟩; rw [hw3]; clear hw3 w3) | fail)
    go_ret2
    exact ⟨rfl, Below.refl _ _⟩
  ·obtain rfl : n = k := by omega
   have i0 : ((n : Int) < (n : Int)) = False := by simp
   have hR : R = ((s : Int), 0) := by
    rw [HR.out, List.drop_of_length_le (by have := HL.out; omega)]
    rfl
   subst hR
   clear hkn HR
   go_wp2
   go_ret2
   exact ⟨rfl, Below.refl _ _⟩
end Go.Proofs.YtbpabjhcjffkmaaGreatDoor
