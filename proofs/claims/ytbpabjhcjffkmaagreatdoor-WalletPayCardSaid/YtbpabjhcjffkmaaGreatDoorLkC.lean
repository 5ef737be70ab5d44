/- lock.op: the walk. Conditions: named in each theorem. lock.Check: the walk. Conditions: named in each theorem. -/
import Derived.Test.YtbpabjhcjffkmaaGreatDoorCmpB
/- lock.op: the walk. Conditions: named in each theorem. -/
namespace Go.Proofs.YtbpabjhcjffkmaaGreatDoor
open Go.RowKit Go.ChangeShapes Go.WideShapes Go.ChangeAt

def errP (k : Int) : Value := if k = 0 then .nilIface else .iface 33 (.int .i64 k)
theorem errP_no {k : Int} (h : k ≠ 0) : errP k = .iface 33 (.int .i64 k) := by unfold errP; rw [if_neg h]
/-- What is wrong with an op. -/
def opQ (op n : Int) (len : Nat) : Int :=
 if op < 1 ∨ 14 < op then 1 else if (n ≠ 0 ∧ op ≠ 9 ∧ op ≠ 10) ∨ (0 < len ∧ op ≠ 1) then 1 else if 300 < len then 4 else if (op = 9 ∧ (n < 1 ∨ 9 < n)) ∨ (op = 10 ∧ (n < 0 ∨ 1073741824 < n)) then 2 else 0
set_option maxHeartbeats 20000000 in
set_option maxRecDepth 100000 in
theorem op_any (op n : Int) (A : Option Addr) (len c : Nat) (w : World) :
  Calls Tryz.prog 100 #[.agg #[.int .i64 op, .int .i64 n, .slice A len c]] w (fun e w' => e = .returned (errP (opQ op n len)) ∧ Below w.heap.size w w') := by
 obtain ⟨Q, hQ⟩ : ∃ Q, Q = opQ op n len := ⟨_, rfl⟩
 rw [← hQ]
 by_cases h1 : op < 1
 ·
  obtain rfl : Q = 1 := by rw [hQ]; unfold opQ; (repeat' split) <;> omega
  clear hQ
  go_enter Tryz.func100, Tryz.ntmps100
  go_wp2
  go_ret
  exact ⟨rfl, (Below.refl _ _).alloc (Nat.le_refl _) _⟩
 by_cases h2 : 14 < op
 ·
  obtain rfl : Q = 1 := by rw [hQ]; unfold opQ; (repeat' split) <;> omega
  clear hQ
  go_enter Tryz.func100, Tryz.ntmps100
  go_wp2
  go_ret
  exact ⟨rfl, (Below.refl _ _).alloc (Nat.le_refl _) _⟩
 have g1 : 1 ≤ op := by omega
 have g2 : op ≤ 14 := by omega
 by_cases o1 : op = 1
 ·subst o1
  by_cases hn : n = 0
  ·have hnb : (n != 0) = false := by simp [hn]
   by_cases hl : len = 0
   ·have hlz : ((0 : Int) < (len : Int)) = False := by simp only [eq_iff_iff, iff_false]; omega
    have hlz3 : (len : Int) ≤ 300 := by omega
    obtain rfl : Q = 0 := by rw [hQ]; unfold opQ; (repeat' split) <;> omega
    clear hQ
    go_enter Tryz.func100, Tryz.ntmps100
    go_wp2
    go_ret
    exact ⟨rfl, (Below.refl _ _).alloc (Nat.le_refl _) _⟩
   ·have hlz : (0 : Int) < (len : Int) := by omega
    by_cases hl3 : 300 < len
    ·have hlz3 : (300 : Int) < (len : Int) := by omega
     obtain rfl : Q = 4 := by rw [hQ]; unfold opQ; (repeat' split) <;> omega
     clear hQ
     go_enter Tryz.func100, Tryz.ntmps100
     go_wp2
     go_ret
     exact ⟨rfl, (Below.refl _ _).alloc (Nat.le_refl _) _⟩
    ·have hlz3 : (len : Int) ≤ 300 := by omega
     obtain rfl : Q = 0 := by rw [hQ]; unfold opQ; (repeat' split) <;> omega
     clear hQ
     go_enter Tryz.func100, Tryz.ntmps100
     go_wp2
     go_ret
     exact ⟨rfl, (Below.refl _ _).alloc (Nat.le_refl _) _⟩
  ·have hnb : (n != 0) = true := by simp [hn]
   obtain rfl : Q = 1 := by rw [hQ]; unfold opQ; (repeat' split) <;> omega
   clear hQ
   go_enter Tryz.func100, Tryz.ntmps100
   go_wp2
   go_ret
   exact ⟨rfl, (Below.refl _ _).alloc (Nat.le_refl _) _⟩
 by_cases o9 : op = 9
 ·subst o9
  by_cases hl : len = 0
  ·have hlz : ((0 : Int) < (len : Int)) = False := by simp only [eq_iff_iff, iff_false]; omega
   have hlz3 : (len : Int) ≤ 300 := by omega
   by_cases hn : n = 0
   ·have hnb : (n != 0) = false := by simp [hn]
    subst hn
    obtain rfl : Q = 2 := by rw [hQ]; unfold opQ; (repeat' split) <;> omega
    clear hQ
    go_enter Tryz.func100, Tryz.ntmps100
    go_wp2
    go_ret
    exact ⟨rfl, (Below.refl _ _).alloc (Nat.le_refl _) _⟩
   ·have hnb : (n != 0) = true := by simp [hn]
    by_cases hlo : n < 1
    ·
     obtain rfl : Q = 2 := by rw [hQ]; unfold opQ; (repeat' split) <;> omega
     clear hQ
     go_enter Tryz.func100, Tryz.ntmps100
     go_wp2
     go_ret
     exact ⟨rfl, (Below.refl _ _).alloc (Nat.le_refl _) _⟩
    by_cases hhi : 9 < n
    ·
     have hlo2 : 1 ≤ n := by omega
     obtain rfl : Q = 2 := by rw [hQ]; unfold opQ; (repeat' split) <;> omega
     clear hQ
     go_enter Tryz.func100, Tryz.ntmps100
     go_wp2
     go_ret
     exact ⟨rfl, (Below.refl _ _).alloc (Nat.le_refl _) _⟩
    have hlo2 : 1 ≤ n := by omega
    have hhi2 : n ≤ 9 := by omega
    obtain rfl : Q = 0 := by rw [hQ]; unfold opQ; (repeat' split) <;> omega
    clear hQ
    go_enter Tryz.func100, Tryz.ntmps100
    go_wp2
    go_ret
    exact ⟨rfl, (Below.refl _ _).alloc (Nat.le_refl _) _⟩
  ·have hlz : (0 : Int) < (len : Int) := by omega
   by_cases hn : n = 0
   ·have hnb : (n != 0) = false := by simp [hn]
    obtain rfl : Q = 1 := by rw [hQ]; unfold opQ; (repeat' split) <;> omega
    clear hQ
    go_enter Tryz.func100, Tryz.ntmps100
    go_wp2
    go_ret
    exact ⟨rfl, (Below.refl _ _).alloc (Nat.le_refl _) _⟩
   ·have hnb : (n != 0) = true := by simp [hn]
    obtain rfl : Q = 1 := by rw [hQ]; unfold opQ; (repeat' split) <;> omega
    clear hQ
    go_enter Tryz.func100, Tryz.ntmps100
    go_wp2
    go_ret
    exact ⟨rfl, (Below.refl _ _).alloc (Nat.le_refl _) _⟩
 by_cases o10 : op = 10
 ·subst o10
  by_cases hl : len = 0
  ·have hlz : ((0 : Int) < (len : Int)) = False := by simp only [eq_iff_iff, iff_false]; omega
   have hlz3 : (len : Int) ≤ 300 := by omega
   by_cases hn : n = 0
   ·have hnb : (n != 0) = false := by simp [hn]
    subst hn
    obtain rfl : Q = 0 := by rw [hQ]; unfold opQ; (repeat' split) <;> omega
    clear hQ
    go_enter Tryz.func100, Tryz.ntmps100
    go_wp2
    go_ret
    exact ⟨rfl, (Below.refl _ _).alloc (Nat.le_refl _) _⟩
   ·have hnb : (n != 0) = true := by simp [hn]
    by_cases hlo : n < 0
    ·
     obtain rfl : Q = 2 := by rw [hQ]; unfold opQ; (repeat' split) <;> omega
     clear hQ
     go_enter Tryz.func100, Tryz.ntmps100
     go_wp2
     go_ret
     exact ⟨rfl, (Below.refl _ _).alloc (Nat.le_refl _) _⟩
    by_cases hhi : 1073741824 < n
    ·
     have hlo2 : 0 ≤ n := by omega
     obtain rfl : Q = 2 := by rw [hQ]; unfold opQ; (repeat' split) <;> omega
     clear hQ
     go_enter Tryz.func100, Tryz.ntmps100
     go_wp2
     go_ret
     exact ⟨rfl, (Below.refl _ _).alloc (Nat.le_refl _) _⟩
    have hlo2 : 0 ≤ n := by omega
    have hhi2 : n ≤ 1073741824 := by omega
    obtain rfl : Q = 0 := by rw [hQ]; unfold opQ; (repeat' split) <;> omega
    clear hQ
    go_enter Tryz.func100, Tryz.ntmps100
    go_wp2
    go_ret
    exact ⟨rfl, (Below.refl _ _).alloc (Nat.le_refl _) _⟩
  ·have hlz : (0 : Int) < (len : Int) := by omega
   by_cases hn : n = 0
   ·have hnb : (n != 0) = false := by simp [hn]
    obtain rfl : Q = 1 := by rw [hQ]; unfold opQ; (repeat' split) <;> omega
    clear hQ
    go_enter Tryz.func100, Tryz.ntmps100
    go_wp2
    go_ret
    exact ⟨rfl, (Below.refl _ _).alloc (Nat.le_refl _) _⟩
   ·have hnb : (n != 0) = true := by simp [hn]
    obtain rfl : Q = 1 := by rw [hQ]; unfold opQ; (repeat' split) <;> omega
    clear hQ
    go_enter Tryz.func100, Tryz.ntmps100
    go_wp2
    go_ret
    exact ⟨rfl, (Below.refl _ _).alloc (Nat.le_refl _) _⟩
 have b1 : (op != 1) = true := by simp [o1]
 have b9 : (op != 9) = true := by simp [o9]
 have b10 : (op != 10) = true := by simp [o10]
 have c9 : (op == 9) = false := by simp [o9]
 have c10 : (op == 10) = false := by simp [o10]
 by_cases hn : n = 0
 ·have hnb : (n != 0) = false := by simp [hn]
  by_cases hl : len = 0
  ·have hlz : ((0 : Int) < (len : Int)) = False := by simp only [eq_iff_iff, iff_false]; omega
   have hlz3 : (len : Int) ≤ 300 := by omega
   obtain rfl : Q = 0 := by rw [hQ]; unfold opQ; (repeat' split) <;> omega
   clear hQ
   go_enter Tryz.func100, Tryz.ntmps100
   go_wp2
   go_ret
   exact ⟨rfl, (Below.refl _ _).alloc (Nat.le_refl _) _⟩
  ·have hlz : (0 : Int) < (len : Int) := by omega
   obtain rfl : Q = 1 := by rw [hQ]; unfold opQ; (repeat' split) <;> omega
   clear hQ
   go_enter Tryz.func100, Tryz.ntmps100
   go_wp2
   go_ret
   exact ⟨rfl, (Below.refl _ _).alloc (Nat.le_refl _) _⟩
 ·have hnb : (n != 0) = true := by simp [hn]
  obtain rfl : Q = 1 := by rw [hQ]; unfold opQ; (repeat' split) <;> omega
  clear hQ
  go_enter Tryz.func100, Tryz.ntmps100
  go_wp2
  go_ret
  exact ⟨rfl, (Below.refl _ _).alloc (Nat.le_refl _) _⟩
end Go.Proofs.YtbpabjhcjffkmaaGreatDoor

/- lock.Check: the walk. Conditions: named in each theorem. -/
namespace Go.Proofs.YtbpabjhcjffkmaaGreatDoor
open Go.RowKit Go.ChangeShapes Go.WideShapes Go.ChangeAt

/-- What is wrong with an op, as it is. -/
def opP (o : POp) : Int := opQ o.1 o.2.1 o.2.2.length
/-- What is wrong with the flow: If, Else, End. -/
def flowQ : List POp → List Bool → Int
 | [], st => if st = [] then 0 else 1
 | o :: r, st => if o.1 = 11 then flowQ r (false :: st) else if o.1 ≠ 12 ∧ o.1 ≠ 13 then flowQ r st else
   match st with
   | [] => 1
   | t :: st' => if o.1 = 12 then (if t = true then 1 else flowQ r (true :: st')) else flowQ r st'
theorem flow_if {o : POp} (r : List POp) (st : List Bool) (h : o.1 = 11) : flowQ (o :: r) st = flowQ r (false :: st) := by
 show (if o.1 = 11 then _ else _) = _
 rw [if_pos h]
theorem flow_no {o : POp} (r : List POp) (st : List Bool) (h : o.1 ≠ 11) (h2 : o.1 ≠ 12 ∧ o.1 ≠ 13) : flowQ (o :: r) st = flowQ r st := by
 show (if o.1 = 11 then _ else if o.1 ≠ 12 ∧ o.1 ≠ 13 then _ else _) = _
 rw [if_neg h, if_pos h2]
theorem flow_nil {o : POp} (r : List POp) (h : o.1 = 12 ∨ o.1 = 13) : flowQ (o :: r) [] = 1 := by
 show (if o.1 = 11 then _ else if o.1 ≠ 12 ∧ o.1 ≠ 13 then _ else _) = _
 rw [if_neg (by omega), if_neg (by omega)]
theorem flow_else {o : POp} (r : List POp) (t : Bool) (st : List Bool) (h : o.1 = 12) : flowQ (o :: r) (t :: st) = if t = true then 1 else flowQ r (true :: st) := by
 show (if o.1 = 11 then _ else if o.1 ≠ 12 ∧ o.1 ≠ 13 then _ else if o.1 = 12 then _ else _) = _
 rw [if_neg (by omega), if_neg (by omega), if_pos h]
theorem flow_end {o : POp} (r : List POp) (t : Bool) (st : List Bool) (h : o.1 = 13) : flowQ (o :: r) (t :: st) = flowQ r st := by
 show (if o.1 = 11 then _ else if o.1 ≠ 12 ∧ o.1 ≠ 13 then _ else if o.1 = 12 then _ else _) = _
 rw [if_neg (by omega), if_neg (by omega), if_neg (by omega)]
/-- What is wrong with a lock. -/
def lkQ (os : List POp) : Int := if 60 < os.length then 4 else if orL (os.map opP) ≠ 0 then orL (os.map opP) else flowQ os []
theorem infoBl : (Tryz.prog.info? 4).map (fun i => (i.zero, i.size, i.bytes)) = some (some (.bool false), 1, 1) := by kernel_rfl
/-- A row of bools of the call's own, the top one first. -/
abbrev OwnB (w : World) (base : Nat) (A : Option Addr) (n c : Nat) (st : List Bool) : Prop := w.ownsRow base 4 1 (.slice A n c) n (st.reverse.map Value.bool)
theorem ownB_open {w : World} {base n c : Nat} {A : Option Addr} {t : Bool} {st : List Bool} (h : OwnB w base A n c (t :: st)) (hn : n = st.length + 1) :
  ∃ g cur, A = some ⟨g, 0, none⟩ ∧ base ≤ g ∧ w.heap[g]? = some (.cells cur 4 (0, 0)) ∧ n ≤ c ∧ c ≤ maxLen ∧ cur.size = c ∧ cur.toList.take n = (t :: st).reverse.map Value.bool := by
 rcases h.2 with ⟨_, h0⟩ | ⟨g, cap, cur, hv, hb, hg, hnc, hcm, hs, ht⟩
 ·omega
 ·injection hv with e1 e2 e3
  subst e3
  refine ⟨g, cur, e1, hb, hg, hnc, hcm, by omega, ?_⟩
  rwa [Nat.mul_one] at ht
theorem ownB_top {w : World} {base n c : Nat} {A : Option Addr} {t : Bool} {st : List Bool} (h : OwnB w base A n c (t :: st)) (hn : n = st.length + 1) :
  ∃ g, A = some ⟨g, 0, none⟩ ∧ base ≤ g ∧ g < w.heap.size ∧ n ≤ c ∧ w.cell? ⟨g, st.length, none⟩ = some (.bool t) ∧ w.frozen? ⟨g, st.length, none⟩ = false ∧ OwnB w base (some ⟨g, 0, none⟩) st.length c st ∧ OwnB (w.setCell ⟨g, st.length, none⟩ (.bool true)) base (some ⟨g, 0, none⟩) n c (true :: st) := by
 obtain ⟨g, cur, e, hb, hg, hnc, hcm, hs, ht⟩ := ownB_open h hn
 have hlt : st.length < cur.size := by omega
 have hcl : cur.toList.length = cur.size := by simp
 have e2 : cur.toList[st.length]? = some (.bool t) := by
  have h9 : (cur.toList.take n)[st.length]? = cur.toList[st.length]? := List.getElem?_take_of_lt (by omega)
  rw [← h9, ht, List.getElem?_map, List.reverse_cons, List.getElem?_append_right (by simp)]
  simp
 have e3 : cur.toList.take st.length = st.reverse.map Value.bool := by
  have h9 : (cur.toList.take n).take st.length = cur.toList.take st.length := by rw [List.take_take]; congr 1; omega
  rw [← h9, ht, List.reverse_cons, List.map_append, List.take_append_of_le_length (by simp), List.take_of_length_le (by simp)]
 refine ⟨g, e, hb, (Array.getElem?_eq_some_iff.1 hg).1, hnc, ?_, frozen_of_row w g _ _ _ hg, ⟨by simp, .inr ⟨g, c, cur, rfl, hb, hg, by omega, hcm, by omega, by rw [Nat.mul_one]; exact e3⟩⟩, ⟨by simp [hn], .inr ⟨g, c, cur.setIfInBounds st.length (.bool true), rfl, hb, heap_setCell_same w g _ _ _ _ hg, hnc, hcm, by rw [Array.size_setIfInBounds]; omega, ?_⟩⟩⟩
 ·rw [cell_of_row w g _ _ _ _ hg, ← Array.getElem?_toList]
  exact e2
 ·rw [Nat.mul_one, Array.toList_setIfInBounds, hn, List.take_add_one, List.take_set_of_le (Nat.le_refl _), e3, List.getElem?_set_self (by omega), List.reverse_cons, List.map_append]
  rfl
set_option maxHeartbeats 40000000 in
set_option maxRecDepth 100000 in
theorem lkC_any (rs : List ROp) (A : Option Addr) (n c : Nat) (w : World) (h : RSl w w.heap.size A n rs) :
  Calls Tryz.prog 58 #[.slice A n c] w (fun e w' => e = .returned (errP (lkQ (rs.map ROp.pl))) ∧ Below w.heap.size w w') := by
 have hl := h.len
 obtain ⟨Q, hQ⟩ : ∃ Q, Q = lkQ (rs.map ROp.pl) := ⟨_, rfl⟩
 rw [← hQ]
 unfold lkQ at hQ
 rw [List.length_map, hl] at hQ
 have HL := aside hl
 have H := aside h
 have HB0 := aside (Below.refl w.heap.size w)
 clear hl h
 by_cases hbig : 60 < n
 ·have hz : (60 : Int) < (n : Int) := by omega
  obtain rfl : Q = 4 := hQ.trans (if_pos hbig)
  clear hQ hbig
  go_enter Tryz.func58, Tryz.ntmps58
  go_wp2
  go_ret
  exact ⟨rfl, HB0.out⟩
 have hz : (n : Int) ≤ 60 := by omega
 have HQ := aside (hQ.trans (if_neg hbig))
 clear hQ hbig
 have HO0 : Hid (orL ((rs.map ROp.pl).map opP) = orL (((rs.drop 0).map ROp.pl).map opP)) := aside rfl
 go_enter Tryz.func58, Tryz.ntmps58
 go_wp2_with fail
 go_loopw [16] (fun v16 wr => ∃ k : Nat, k ≤ n ∧ v16 = .int .i64 k ∧ Hid (Below w.heap.size w wr) ∧ Hid (orL ((rs.map ROp.pl).map opP) = orL (((rs.drop k).map ROp.pl).map opP))) (fun v16 _ => n - (Go.RowKit.intOf v16).toNat)
 case atStart => exact ⟨0, Nat.zero_le _, rfl, HB0, HO0⟩
 case round =>
  clear HB0 HO0
  obtain ⟨k, hk, rfl, HB, HOr⟩ := hrel
  by_cases hkn : k < n
  ·have k0 : (k : Int) < (n : Int) := by omega
   have hwz := HB.out.size
   obtain ⟨b1, of1, e1, hb1, p0, p1, p2⟩ := (H.out.below HB.out).at_ hkn
   have hm := H.out.mem hkn
   have hdl := YSl.len1 (H.out.data _ hm)
   have hdr : rs.drop k = rs.getD k noR :: rs.drop (k + 1) := by
    rw [List.getD_eq_getElem?_getD, List.getElem?_eq_getElem (by have := HL.out; omega)]
    exact List.drop_eq_getElem_cons (by have := HL.out; omega)
   have hor := HOr.out
   rw [hdr] at hor
   generalize rs.getD k noR = r at *
   have hop : opP r.pl = opQ r.op r.n r.dn := by unfold opP ROp.pl; rw [hdl]
   have hor2 : orL ((rs.map ROp.pl).map opP) = if opQ r.op r.n r.dn ≠ 0 then opQ r.op r.n r.dn else orL (((rs.drop (k + 1)).map ROp.pl).map opP) := by
    rw [hor, ← hop]
    rfl
   have HOn := aside hor2
   have hbb : b1 < wr.heap.size := by omega
   have HC := aside (op_any r.op r.n r.dA r.dn r.dc (wr.alloc (.cells #[.int .i64 r.op, .int .i64 r.n, .slice r.dA r.dn r.dc] 85)))
   have B2 : Hid (Below wr.heap.size wr (wr.alloc (.cells #[.int .i64 r.op, .int .i64 r.n, .slice r.dA r.dn r.dc] 85))) := aside ((Below.refl _ _).alloc (Nat.le_refl _) _)
   generalize opQ r.op r.n r.dn = q at HC HOn
   subst e1
   clear hm hdl hdr hor hop hor2 hkn
   go_wp2_with fail
   refine HC.out.mono ?_
   rintro e w3 ⟨rfl, hb3⟩
   have HB3 := aside (HB.out.trans ((B2.out.trans (hb3.mono B2.out.size)).mono hwz))
   clear hb3 HC p0 p1 p2 B2
   by_cases hq : q = 0
   ·subst hq
    rw [show errP 0 = Value.nilIface from rfl]
    have HO2 : Hid (orL ((rs.map ROp.pl).map opP) = orL (((rs.drop (k + 1)).map ROp.pl).map opP)) := aside (HOn.out.trans (if_neg (by simp)))
    go_wp2
    exact ⟨⟨k + 1, by omega, by go_num, HB3, HO2⟩, by simp [Go.RowKit.intOf]; omega⟩
   ·have hQq : Q = q := by
     have e9 := HOn.out.trans (if_pos hq)
     rw [HQ.out, e9, if_pos hq]
    subst hQq
    rw [errP_no hq]
    have HE := aside (errP_no hq)
    clear hq
    go_wp2
    go_ret
    exact ⟨by rw [HE.out] <;> rfl, HB3.out⟩
  ·obtain rfl : n = k := by omega
   have i0 : ((n : Int) < (n : Int)) = False := by simp
   have HQ2 : Hid (Q = flowQ (rs.map ROp.pl) []) := aside (by
    have e9 := HOr.out
    rw [List.drop_of_length_le (by have := HL.out; omega)] at e9
    rw [HQ.out, e9]
    exact if_neg (by simp [orL]))
   clear HQ HOr hkn
   have HO0 : Hid (OwnB wr w.heap.size none 0 0 []) := aside ⟨by simp, .inl ⟨rfl, rfl⟩⟩
   go_wp2_with fail
   go_loopw [6, 28] (fun v6 v28 wx => ∃ (k m : Nat) (st : List Bool) (A1 : Option Addr) (c1 : Nat), k ≤ n ∧ v28 = .int .i64 k ∧ m ≤ k ∧ v6 = .slice A1 m c1 ∧ Hid (m = st.length) ∧ Hid (OwnB wx w.heap.size A1 m c1 st) ∧ Hid (Below w.heap.size w wx) ∧ Hid (Q = flowQ ((rs.drop k).map ROp.pl) st)) (fun _ v28 _ => n - (Go.RowKit.intOf v28).toNat)
   case atStart => exact ⟨0, 0, [], none, 0, Nat.zero_le _, rfl, Nat.zero_le _, rfl, aside rfl, HO0, HB, HQ2⟩
   case round =>
    clear HB HQ2 HO0
    obtain ⟨k, m, st, A1, c1, hk, rfl, hmk, rfl, HM, HO, HB, HQ⟩ := hrel
    by_cases hkn : k < n
    ·have k0 : (k : Int) < (n : Int) := by omega
     have hwz := HB.out.size
     obtain ⟨b1, of1, e1, hb1, p0, p1, p2⟩ := (H.out.below HB.out).at_ hkn
     have hdr : rs.drop k = rs.getD k noR :: rs.drop (k + 1) := by
      rw [List.getD_eq_getElem?_getD, List.getElem?_eq_getElem (by have := HL.out; omega)]
      exact List.drop_eq_getElem_cons (by have := HL.out; omega)
     have hq := HQ.out
     rw [hdr, List.map_cons] at hq
     generalize rs.getD k noR = r at *
     have HQn := aside hq
     have hbb : b1 < wr.heap.size := by omega
     obtain ⟨o1, n1, A2, d2, c2, t2⟩ := r
     dsimp only [ROp.pl] at p0 p1 p2 HQn
     have B2 : Hid (Below wr.heap.size wr (wr.alloc (.cells #[.int .i64 o1, .int .i64 n1, .slice A2 d2 c2] 85))) := aside ((Below.refl _ _).alloc (Nat.le_refl _) _)
     have HO2 : Hid (OwnB (wr.alloc (.cells #[.int .i64 o1, .int .i64 n1, .slice A2 d2 c2] 85)) w.heap.size A1 m c1 st) := aside (own_below HO.out B2.out)
     have HB2 : Hid (Below w.heap.size w (wr.alloc (.cells #[.int .i64 o1, .int .i64 n1, .slice A2 d2 c2] 85))) := aside (HB.out.trans (B2.out.mono hwz))
     have hx0 : (wr.alloc (.cells #[.int .i64 o1, .int .i64 n1, .slice A2 d2 c2] 85)).cell? ⟨wr.heap.size, 0, none⟩ = some (.int .i64 o1) := by
      rw [cell_of_row _ _ 0 _ _ _ (heap_alloc_new wr _)]
      rfl
     subst e1
     clear hq hdr hkn HQ HO
     go_upto_region 14 with fail
     change Code.wp _ _ _ _ (wr.alloc (.cells #[.int .i64 o1, .int .i64 n1, .slice A2 d2 c2] 85))
     generalize (wr.alloc (.cells #[.int .i64 o1, .int .i64 n1, .slice A2 d2 c2] 85)) = w2 at HO2 HB2 hx0 B2 ⊢
     have hz2 := HB2.out.size
     obtain ⟨bx, hbx⟩ : ∃ bx, bx = wr.heap.size := ⟨_, rfl⟩
     rw [← hbx] at hx0 ⊢
     clear hbx p0 p1 p2 B2
     by_cases h11 : o1 = 11
     ·subst h11
      have HQ2 : Hid (Q = flowQ ((rs.drop (k + 1)).map ROp.pl) (false :: st)) := aside (HQn.out.trans (flow_if _ _ rfl))
      clear HQn
      go_wp2_with (first
       | (at_builtin; refine wpList_push rfl (.tmp 42) (.tmp 43) 89 rfl w.heap.size _ 1 1 Tryz.underlying89 infoBl rfl (by decide) (.slice A1 m c1) m _ rfl rfl rfl rfl HO2.out (by omega) (by unfold maxLen; omega) hz2 ?_; intro A3 c3 w3 hc3 hc3' hown3 hb3 hz3' hg3)
       | fail)
      have HO3 : Hid (OwnB w3 w.heap.size A3 (m + 1) c3 (false :: st)) := aside (by
       show w3.ownsRow _ _ _ _ _ _
       rw [List.reverse_cons, List.map_append]
       exact hown3)
      have HB3 := aside (HB2.out.trans hb3)
      have HM3 : Hid (m + 1 = (false :: st).length) := aside (by rw [List.length_cons, ← HM.out])
      clear hown3 hb3 hg3 hz3'
      exact ⟨⟨k + 1, m + 1, false :: st, A3, c3, by omega, by go_num, by omega, rfl, HM3, HO3, HB3, HQ2⟩, by simp [Go.RowKit.intOf]; omega⟩
     have t11 : (o1 == 11) = false := by simp [h11]
     by_cases hne : o1 ≠ 12 ∧ o1 ≠ 13
     ·have t12 : (o1 != 12) = true := by simp [hne.1]
      have t13 : (o1 != 13) = true := by simp [hne.2]
      have HQ2 : Hid (Q = flowQ ((rs.drop (k + 1)).map ROp.pl) st) := aside (HQn.out.trans (flow_no _ _ h11 hne))
      clear HQn h11 hne
      go_wp2
      exact ⟨⟨k + 1, m, st, A1, c1, by omega, by go_num, by omega, rfl, HM, HO2, HB2, HQ2⟩, by simp [Go.RowKit.intOf]; omega⟩
     cases st with
     | nil =>
      have hm0 := HM.out
      obtain rfl : m = 0 := hm0
      have hQ1 : Q = 1 := HQn.out.trans (flow_nil _ (by omega))
      clear HQn h11
      subst hQ1
      by_cases h12 : o1 = 12
      ·subst h12
       clear hne
       go_wp2
       go_ret
       exact ⟨rfl, HB2.out⟩
      ·obtain rfl : o1 = 13 := by omega
       clear hne h12
       go_wp2
       go_ret
       exact ⟨rfl, HB2.out⟩
     | cons t st' =>
      obtain ⟨m', rfl⟩ : ∃ m', m = m' + 1 := ⟨st'.length, HM.out⟩
      have HM' : Hid (m' = st'.length) := aside (by have := HM.out; rw [List.length_cons] at this; omega)
      obtain ⟨g, hAe, hgb, hgl, hcc, hct, hcf, hos, hon⟩ := ownB_top HO2.out HM.out
      rw [← HM'.out] at hct hcf hos hon
      have HOs := aside hos
      have HOn := aside hon
      subst hAe
      have hm0 : (0 : Int) ≤ (m' : Int) := by omega
      have hmc : (m' : Int) ≤ (c1 : Int) := by omega
      have hmm : (m' : Int) < ((m' + 1 : Nat) : Int) := by omega
      clear hos hon HO2 hcc
      by_cases h12 : o1 = 12
      ·subst h12
       clear hne h11 t11
       cases t with
       | true =>
        have hQ1 : Q = 1 := HQn.out.trans ((flow_else _ _ _ rfl).trans (if_pos rfl))
        clear HQn
        subst hQ1
        go_wp2
        go_ret
        exact ⟨rfl, HB2.out⟩
       | false =>
        have HQ2 : Hid (Q = flowQ ((rs.drop (k + 1)).map ROp.pl) (true :: st')) := aside (HQn.out.trans ((flow_else _ _ _ rfl).trans (if_neg (by simp))))
        have HBs : Hid (Below w.heap.size w (w2.setCell ⟨g, m', none⟩ (.bool true))) := aside (HB2.out.setCell (p := ⟨g, m', none⟩) hgb _)
        have HM3 : Hid (m' + 1 = (true :: st').length) := aside (by rw [List.length_cons, ← HM'.out])
        clear HQn
        go_wp2
        exact ⟨⟨k + 1, m' + 1, true :: st', some ⟨g, 0, none⟩, c1, by omega, by go_num, by omega, rfl, HM3, HOn, HBs, HQ2⟩, by simp [Go.RowKit.intOf]; omega⟩
      ·obtain rfl : o1 = 13 := by omega
       have HQ2 : Hid (Q = flowQ ((rs.drop (k + 1)).map ROp.pl) st') := aside (HQn.out.trans (flow_end _ _ _ rfl))
       clear HQn hne h11 h12 t11
       go_wp2
       exact ⟨⟨k + 1, m', st', some ⟨g, 0, none⟩, c1, by omega, by go_num, by omega, rfl, HM', HOs, HB2, HQ2⟩, by simp [Go.RowKit.intOf]; omega⟩
    ·obtain rfl : n = k := by omega
     have i0 : ((n : Int) < (n : Int)) = False := by simp
     have hq := HQ.out
     rw [List.drop_of_length_le (by have := HL.out; omega)] at hq
     have hq2 : Q = if st = [] then 0 else 1 := hq
     have HM2 := HM.out
     clear hkn HQ hq
     cases st with
     | nil =>
      obtain rfl : m = 0 := HM2
      obtain rfl : Q = 0 := hq2
      go_wp2
      go_ret
      exact ⟨rfl, HB.out⟩
     | cons t st' =>
      have hm0 : (0 : Int) < (m : Int) := by rw [HM2, List.length_cons]; omega
      obtain rfl : Q = 1 := hq2
      clear HM2
      go_wp2
      go_ret
      exact ⟨rfl, HB.out⟩
end Go.Proofs.YtbpabjhcjffkmaaGreatDoor
