/- moneyerref1.OpFault: the walk. Conditions: named in each theorem. The reference's pairs of ops (Ended, Behind): the walks, and the plain law. Conditions: named in each theorem. -/
import Derived.Test.YtbpabjhcjffkmaaGreatDoorLkC
/- moneyerref1.OpFault: the walk. Conditions: named in each theorem. -/
namespace Go.Proofs.YtbpabjhcjffkmaaGreatDoor
open Go.RowKit Go.ChangeShapes Go.WideShapes Go.ChangeAt

set_option maxHeartbeats 20000000 in
set_option maxRecDepth 100000 in
theorem rop_any (op n : Int) (A : Option Addr) (len c : Nat) (w : World) :
  Calls Tryz.prog 43 #[.agg #[.int .i64 op, .int .i64 n, .slice A len c]] w (fun e w' => e = .returned (.int .i64 (opQ op n len)) ∧ Below w.heap.size w w') := by
 obtain ⟨Q, hQ⟩ : ∃ Q, Q = opQ op n len := ⟨_, rfl⟩
 rw [← hQ]
 by_cases h1 : op < 1
 ·
  obtain rfl : Q = 1 := by rw [hQ]; unfold opQ; (repeat' split) <;> omega
  clear hQ
  go_enter Tryz.func43, Tryz.ntmps43
  go_wp2
  go_ret
  exact ⟨rfl, (Below.refl _ _).alloc (Nat.le_refl _) _⟩
 by_cases h2 : 14 < op
 ·
  obtain rfl : Q = 1 := by rw [hQ]; unfold opQ; (repeat' split) <;> omega
  clear hQ
  go_enter Tryz.func43, Tryz.ntmps43
  go_wp2
  go_ret
  exact ⟨rfl, (Below.refl _ _).alloc (Nat.le_refl _) _⟩
 have g1 : 1 ≤ op := by omega
 have g2 : op ≤ 14 := by omega
 by_cases o1 : op = 1
 ·subst o1
  by_cases hn : n = 0
  ·have hnb : (n != 0) = false := by simp [hn]
   by_cases hl : len = 0
   ·have hlz : ((0 : Int) < (len : Int)) = False := by simp only [eq_iff_iff, iff_false]; omega
    have hlz3 : (len : Int) ≤ 300 := by omega
    obtain rfl : Q = 0 := by rw [hQ]; unfold opQ; (repeat' split) <;> omega
    clear hQ
    go_enter Tryz.func43, Tryz.ntmps43
    go_wp2
    go_ret
    exact ⟨rfl, (Below.refl _ _).alloc (Nat.le_refl _) _⟩
   ·have hlz : (0 : Int) < (len : Int) := by omega
    by_cases hl3 : 300 < len
    ·have hlz3 : (300 : Int) < (len : Int) := by omega
     obtain rfl : Q = 4 := by rw [hQ]; unfold opQ; (repeat' split) <;> omega
     clear hQ
     go_enter Tryz.func43, Tryz.ntmps43
     go_wp2
     go_ret
     exact ⟨rfl, (Below.refl _ _).alloc (Nat.le_refl _) _⟩
    ·have hlz3 : (len : Int) ≤ 300 := by omega
     obtain rfl : Q = 0 := by rw [hQ]; unfold opQ; (repeat' split) <;> omega
     clear hQ
     go_enter Tryz.func43, Tryz.ntmps43
     go_wp2
     go_ret
     exact ⟨rfl, (Below.refl _ _).alloc (Nat.le_refl _) _⟩
  ·have hnb : (n != 0) = true := by simp [hn]
   obtain rfl : Q = 1 := by rw [hQ]; unfold opQ; (repeat' split) <;> omega
   clear hQ
   go_enter Tryz.func43, Tryz.ntmps43
   go_wp2
   go_ret
   exact ⟨rfl, (Below.refl _ _).alloc (Nat.le_refl _) _⟩
 by_cases o9 : op = 9
 ·subst o9
  by_cases hl : len = 0
  ·have hlz : ((0 : Int) < (len : Int)) = False := by simp only [eq_iff_iff, iff_false]; omega
   have hlz3 : (len : Int) ≤ 300 := by omega
   by_cases hn : n = 0
   ·have hnb : (n != 0) = false := by simp [hn]
    subst hn
    obtain rfl : Q = 2 := by rw [hQ]; unfold opQ; (repeat' split) <;> omega
    clear hQ
    go_enter Tryz.func43, Tryz.ntmps43
    go_wp2
    go_ret
    exact ⟨rfl, (Below.refl _ _).alloc (Nat.le_refl _) _⟩
   ·have hnb : (n != 0) = true := by simp [hn]
    by_cases hlo : n < 1
    ·
     obtain rfl : Q = 2 := by rw [hQ]; unfold opQ; (repeat' split) <;> omega
     clear hQ
     go_enter Tryz.func43, Tryz.ntmps43
     go_wp2
     go_ret
     exact ⟨rfl, (Below.refl _ _).alloc (Nat.le_refl _) _⟩
    by_cases hhi : 9 < n
    ·
     have hlo2 : 1 ≤ n := by omega
     obtain rfl : Q = 2 := by rw [hQ]; unfold opQ; (repeat' split) <;> omega
     clear hQ
     go_enter Tryz.func43, Tryz.ntmps43
     go_wp2
     go_ret
     exact ⟨rfl, (Below.refl _ _).alloc (Nat.le_refl _) _⟩
    have hlo2 : 1 ≤ n := by omega
    have hhi2 : n ≤ 9 := by omega
    obtain rfl : Q = 0 := by rw [hQ]; unfold opQ; (repeat' split) <;> omega
    clear hQ
    go_enter Tryz.func43, Tryz.ntmps43
    go_wp2
    go_ret
    exact ⟨rfl, (Below.refl _ _).alloc (Nat.le_refl _) _⟩
  ·have hlz : (0 : Int) < (len : Int) := by omega
   by_cases hn : n = 0
   ·have hnb : (n != 0) = false := by simp [hn]
    obtain rfl : Q = 1 := by rw [hQ]; unfold opQ; (repeat' split) <;> omega
    clear hQ
    go_enter Tryz.func43, Tryz.ntmps43
    go_wp2
    go_ret
    exact ⟨rfl, (Below.refl _ _).alloc (Nat.le_refl _) _⟩
   ·have hnb : (n != 0) = true := by simp [hn]
    obtain rfl : Q = 1 := by rw [hQ]; unfold opQ; (repeat' split) <;> omega
    clear hQ
    go_enter Tryz.func43, Tryz.ntmps43
    go_wp2
    go_ret
    exact ⟨rfl, (Below.refl _ _).alloc (Nat.le_refl _) _⟩
 by_cases o10 : op = 10
 ·subst o10
  by_cases hl : len = 0
  ·have hlz : ((0 : Int) < (len : Int)) = False := by simp only [eq_iff_iff, iff_false]; omega
   have hlz3 : (len : Int) ≤ 300 := by omega
   by_cases hn : n = 0
   ·have hnb : (n != 0) = false := by simp [hn]
    subst hn
    obtain rfl : Q = 0 := by rw [hQ]; unfold opQ; (repeat' split) <;> omega
    clear hQ
    go_enter Tryz.func43, Tryz.ntmps43
    go_wp2
    go_ret
    exact ⟨rfl, (Below.refl _ _).alloc (Nat.le_refl _) _⟩
   ·have hnb : (n != 0) = true := by simp [hn]
    by_cases hlo : n < 0
    ·
     obtain rfl : Q = 2 := by rw [hQ]; unfold opQ; (repeat' split) <;> omega
     clear hQ
     go_enter Tryz.func43, Tryz.ntmps43
     go_wp2
     go_ret
     exact ⟨rfl, (Below.refl _ _).alloc (Nat.le_refl _) _⟩
    by_cases hhi : 1073741824 < n
    ·
     have hlo2 : 0 ≤ n := by omega
     obtain rfl : Q = 2 := by rw [hQ]; unfold opQ; (repeat' split) <;> omega
     clear hQ
     go_enter Tryz.func43, Tryz.ntmps43
     go_wp2
     go_ret
     exact ⟨rfl, (Below.refl _ _).alloc (Nat.le_refl _) _⟩
    have hlo2 : 0 ≤ n := by omega
    have hhi2 : n ≤ 1073741824 := by omega
    obtain rfl : Q = 0 := by rw [hQ]; unfold opQ; (repeat' split) <;> omega
    clear hQ
    go_enter Tryz.func43, Tryz.ntmps43
    go_wp2
    go_ret
    exact ⟨rfl, (Below.refl _ _).alloc (Nat.le_refl _) _⟩
  ·have hlz : (0 : Int) < (len : Int) := by omega
   by_cases hn : n = 0
   ·have hnb : (n != 0) = false := by simp [hn]
    obtain rfl : Q = 1 := by rw [hQ]; unfold opQ; (repeat' split) <;> omega
    clear hQ
    go_enter Tryz.func43, Tryz.ntmps43
    go_wp2
    go_ret
    exact ⟨rfl, (Below.refl _ _).alloc (Nat.le_refl _) _⟩
   ·have hnb : (n != 0) = true := by simp [hn]
    obtain rfl : Q = 1 := by rw [hQ]; unfold opQ; (repeat' split) <;> omega
    clear hQ
    go_enter Tryz.func43, Tryz.ntmps43
    go_wp2
    go_ret
    exact ⟨rfl, (Below.refl _ _).alloc (Nat.le_refl _) _⟩
 have b1 : (op != 1) = true := by simp [o1]
 have b9 : (op != 9) = true := by simp [o9]
 have b10 : (op != 10) = true := by simp [o10]
 have c9 : (op == 9) = false := by simp [o9]
 have c10 : (op == 10) = false := by simp [o10]
 by_cases hn : n = 0
 ·have hnb : (n != 0) = false := by simp [hn]
  by_cases hl : len = 0
  ·have hlz : ((0 : Int) < (len : Int)) = False := by simp only [eq_iff_iff, iff_false]; omega
   have hlz3 : (len : Int) ≤ 300 := by omega
   obtain rfl : Q = 0 := by rw [hQ]; unfold opQ; (repeat' split) <;> omega
   clear hQ
   go_enter Tryz.func43, Tryz.ntmps43
   go_wp2
   go_ret
   exact ⟨rfl, (Below.refl _ _).alloc (Nat.le_refl _) _⟩
  ·have hlz : (0 : Int) < (len : Int) := by omega
   obtain rfl : Q = 1 := by rw [hQ]; unfold opQ; (repeat' split) <;> omega
   clear hQ
   go_enter Tryz.func43, Tryz.ntmps43
   go_wp2
   go_ret
   exact ⟨rfl, (Below.refl _ _).alloc (Nat.le_refl _) _⟩
 ·have hnb : (n != 0) = true := by simp [hn]
  obtain rfl : Q = 1 := by rw [hQ]; unfold opQ; (repeat' split) <;> omega
  clear hQ
  go_enter Tryz.func43, Tryz.ntmps43
  go_wp2
  go_ret
  exact ⟨rfl, (Below.refl _ _).alloc (Nat.le_refl _) _⟩
end Go.Proofs.YtbpabjhcjffkmaaGreatDoor

/- The reference's pairs of ops (Ended, Behind): the walks, and the plain law. Conditions: named in each theorem. -/
namespace Go.Proofs.YtbpabjhcjffkmaaGreatDoor
open Go.RowKit Go.ChangeShapes Go.WideShapes Go.ChangeAt

/-- What the ops from a place on come to. -/
def fl (os : List POp) (at_ : Nat) (st : List Bool) : Int := flowQ (os.drop at_) st
/-- The place where the ops from one on end. -/
def EndOk (os : List POp) (at_ : Nat) (r : Int) : Prop :=
 (r = -1 ∧ ∀ st, fl os at_ st = 1) ∨ ∃ k : Nat, r = k ∧ at_ ≤ k ∧ k ≤ os.length ∧ (∀ o, os[k]? = some o → o.1 = 12 ∨ o.1 = 13) ∧ ∀ st, fl os at_ st = fl os k st
/-- The place behind an If's End. -/
def BehOk (os : List POp) (at_ : Nat) (r : Int) : Prop :=
 (r = -1 ∧ ∀ st, fl os at_ st = 1) ∨ ∃ k : Nat, r = k ∧ at_ < k ∧ k ≤ os.length ∧ ∀ st, fl os at_ st = fl os k st
theorem fl_at {os : List POp} {k : Nat} {o : POp} (h : os[k]? = some o) (st : List Bool) : fl os k st = flowQ (o :: os.drop (k + 1)) st := by
 obtain ⟨hk, e⟩ := List.getElem?_eq_some_iff.1 h
 unfold fl
 rw [List.drop_eq_getElem_cons hk, e]
theorem fl_if {os : List POp} {k : Nat} {o : POp} (h : os[k]? = some o) (ho : o.1 = 11) (st : List Bool) : fl os k st = fl os (k + 1) (false :: st) := (fl_at h st).trans (flow_if _ _ ho)
theorem fl_no {os : List POp} {k : Nat} {o : POp} (h : os[k]? = some o) (h1 : o.1 ≠ 11) (h2 : o.1 ≠ 12 ∧ o.1 ≠ 13) (st : List Bool) : fl os k st = fl os (k + 1) st := (fl_at h st).trans (flow_no _ _ h1 h2)
theorem fl_end {os : List POp} {k : Nat} {o : POp} (h : os[k]? = some o) (ho : o.1 = 13) (t : Bool) (st : List Bool) : fl os k (t :: st) = fl os (k + 1) st := (fl_at h _).trans (flow_end _ _ _ ho)
theorem fl_else {os : List POp} {k : Nat} {o : POp} (h : os[k]? = some o) (ho : o.1 = 12) (t : Bool) (st : List Bool) : fl os k (t :: st) = if t = true then 1 else fl os (k + 1) (true :: st) := (fl_at h _).trans (flow_else _ _ _ ho)
theorem fl_nil {os : List POp} {k : Nat} {o : POp} (h : os[k]? = some o) (ho : o.1 = 12 ∨ o.1 = 13) : fl os k [] = 1 := (fl_at h _).trans (flow_nil _ (by omega))
theorem fl_len {os : List POp} {k : Nat} (h : os.length ≤ k) (st : List Bool) : fl os k st = if st = [] then 0 else 1 := by
 unfold fl
 rw [List.drop_of_length_le h]
 rfl
/-- The ops stand in pairs just where they end at their end. -/
theorem end_flow {os : List POp} {r : Int} (h : EndOk os 0 r) : flowQ os [] = if r = (os.length : Int) then 0 else 1 := by
 show fl os 0 [] = _
 rcases h with ⟨rfl, h⟩ | ⟨k, rfl, _, hk, ho, h⟩
 ·rw [h []]
  simp
 ·rw [h []]
  by_cases e : k = os.length
  ·subst e
   rw [fl_len (Nat.le_refl _), if_pos rfl, if_pos rfl]
  ·have hlt : k < os.length := by omega
   rw [fl_nil (List.getElem?_eq_getElem hlt) (ho _ (List.getElem?_eq_getElem hlt)), if_neg (by omega)]
theorem end_here {os : List POp} {k : Nat} (hk : k ≤ os.length) (h : ∀ o, os[k]? = some o → o.1 = 12 ∨ o.1 = 13) : EndOk os k k := .inr ⟨k, rfl, Nat.le_refl _, hk, h, fun _ => rfl⟩
theorem end_next {os : List POp} {k k' : Nat} {r : Int} (hk : k ≤ k') (h : ∀ st, fl os k st = fl os k' st) (he : EndOk os k' r) : EndOk os k r := by
 rcases he with ⟨rfl, h1⟩ | ⟨j, rfl, h1, h2, h3, h4⟩
 ·exact .inl ⟨rfl, fun st => (h st).trans (h1 st)⟩
 ·exact .inr ⟨j, rfl, by omega, h2, h3, fun st => (h st).trans (h4 st)⟩
theorem op_get {rs : List ROp} {k : Nat} (h : k < rs.length) : (rs.map ROp.pl)[k]? = some (rs.getD k noR).pl := pl_at h
/-- What Ended does from a place on. -/
abbrev EndC (rs : List ROp) (A : Option Addr) (n c : Nat) (w : World) (at_ : Nat) : Prop :=
 Calls Tryz.prog 44 #[.slice A n c, .int .i64 (at_ : Int)] w (fun e w' => ∃ r : Int, e = .returned (.int .i64 r) ∧ EndOk (rs.map ROp.pl) at_ r ∧ w' = w)
set_option maxHeartbeats 8000000 in
set_option maxRecDepth 100000 in
theorem behind_step (rs : List ROp) (A : Option Addr) (n c : Nat) (hn : n ≤ 1000) (w : World) (h : RSl w w.heap.size A n rs) (at_ : Nat) (ha : at_ < n) (h11 : (rs.getD at_ noR).op = 11)
  (ih : ∀ k, at_ < k → k ≤ n → EndC rs A n c w k) :
  Calls Tryz.prog 91 #[.slice A n c, .int .i64 (at_ : Int)] w (fun e w' => ∃ r : Int, e = .returned (.int .i64 r) ∧ BehOk (rs.map ROp.pl) at_ r ∧ w' = w) := by
 have hl := h.len
 have hlm : (rs.map ROp.pl).length = n := by rw [List.length_map, hl]
 have hif : ∀ st, fl (rs.map ROp.pl) at_ st = fl (rs.map ROp.pl) (at_ + 1) (false :: st) := fl_if (op_get (by omega)) h11
 have h1 := ih (at_ + 1) (by omega) (by omega)
 have HIf := aside hif
 have HLm := aside hlm
 have HL := aside hl
 have H := aside h
 have IH := aside ih
 have H1 := aside h1
 have hw1 : IntKind.i64.wrap ((at_ : Int) + 1) = ((at_ + 1 : Nat) : Int) := by rw [IntKind.wrap_i64]; omega
 clear h hl hlm hif ih h1 h11
 go_enter Tryz.func91, Tryz.ntmps91
 go_wp2_with fail
 refine H1.out.mono ?_
 rintro e w2 ⟨r, rfl, hr, hw2⟩
 rw [hw2]
 clear hw2 w2
 rcases hr with ⟨rfl, hr⟩ | ⟨k, rfl, hk1, hk2, hko, hkf⟩
 ·have HR : Hid (BehOk (rs.map ROp.pl) at_ (-1)) := aside (.inl ⟨rfl, fun st => (HIf.out st).trans (hr _)⟩)
  clear hr
  go_wp2
  go_ret
  exact ⟨-1, rfl, HR.out, rfl⟩
 rw [HLm.out] at hk2
 have HKo := aside hko
 have HKf := aside hkf
 have g0 : (0 : Int) ≤ (k : Int) := by omega
 have g1 : ¬ ((k : Int) < 0) := by omega
 clear hko hkf
 by_cases hkn : k < n
 ·have g2 : (k : Int) < (n : Int) := by omega
  obtain ⟨b, of, e, hb, p0, -, -⟩ := H.out.at_ hkn
  have hop := op_get (rs := rs) (k := k) (by have := HL.out; omega)
  have hko := HKo.out _ hop
  have HOp := aside hop
  have h12 : (rs.getD k noR).op = 12 ∨ (rs.getD k noR).op = 13 := hko
  have hpl : (rs.getD k noR).pl.1 = (rs.getD k noR).op := rfl
  have HPl := aside hpl
  generalize (rs.getD k noR).op = o at *
  subst e
  clear hop hko hpl hb
  by_cases e12 : o = 12
  ·subst e12
   have h2 := IH.out (k + 1) (by omega) (by omega)
   have H2 := aside h2
   have HEl : Hid (∀ st, fl (rs.map ROp.pl) at_ st = fl (rs.map ROp.pl) (k + 1) (true :: st)) := aside fun st => by
    rw [HIf.out, HKf.out, fl_else HOp.out HPl.out, if_neg (by simp)]
   have hw2 : IntKind.i64.wrap ((k : Int) + 1) = ((k + 1 : Nat) : Int) := by rw [IntKind.wrap_i64]; omega
   clear h2 h12 HOp HPl
   go_wp2_with fail
   refine H2.out.mono ?_
   rintro e w3 ⟨r, rfl, hr, hw3⟩
   rw [hw3]
   clear hw3 w3
   rcases hr with ⟨rfl, hr⟩ | ⟨j, rfl, hj1, hj2, hjo, hjf⟩
   ·have HR : Hid (BehOk (rs.map ROp.pl) at_ (-1)) := aside (.inl ⟨rfl, fun st => (HEl.out st).trans (hr _)⟩)
    clear hr
    go_wp2
    go_ret
    exact ⟨-1, rfl, HR.out, rfl⟩
   rw [HLm.out] at hj2
   have HJo := aside hjo
   have HJf := aside hjf
   have q0 : (0 : Int) ≤ (j : Int) := by omega
   clear hjo hjf
   by_cases hjn : j < n
   ·have q2 : (j : Int) < (n : Int) := by omega
    obtain ⟨b2, of2, e, hb2, s0, -, -⟩ := H.out.at_ hjn
    injection e with e
    injection e with e1 e2
    rw [← e1, ← e2] at s0
    have hop := op_get (rs := rs) (k := j) (by have := HL.out; omega)
    have hjo := HJo.out _ hop
    have HOp := aside hop
    have h12 : (rs.getD j noR).op = 12 ∨ (rs.getD j noR).op = 13 := hjo
    have hpl : (rs.getD j noR).pl.1 = (rs.getD j noR).op := rfl
    have HPl := aside hpl
    generalize (rs.getD j noR).op = o at *
    clear hop hjo hpl hb2 e1 e2
    by_cases e12 : o = 12
    ·subst e12
     have HR : Hid (BehOk (rs.map ROp.pl) at_ (-1)) := aside (.inl ⟨rfl, fun st => by rw [HEl.out, HJf.out, fl_else HOp.out HPl.out, if_pos rfl]⟩)
     clear HOp HPl h12
     go_wp2
     go_ret
     exact ⟨-1, rfl, HR.out, rfl⟩
    ·obtain rfl : o = 13 := by omega
     have HR : Hid (BehOk (rs.map ROp.pl) at_ ((j + 1 : Nat) : Int)) := aside (.inr ⟨j + 1, rfl, by omega, by rw [HLm.out]; omega, fun st => by rw [HEl.out, HJf.out, fl_end HOp.out HPl.out]⟩)
     clear HOp HPl h12 e12
     go_wp2
     go_ret
     exact ⟨_, rfl, by first | exact HR.out | (rw [← Int.natCast_succ]; exact HR.out), rfl⟩
   ·obtain rfl : j = n := by omega
    have q2 : ((j : Int) < (j : Int)) = False := by simp
    have HR : Hid (BehOk (rs.map ROp.pl) at_ (-1)) := aside (.inl ⟨rfl, fun st => by rw [HEl.out, HJf.out, fl_len (by rw [HLm.out]; exact Nat.le_refl _), if_neg (by simp)]⟩)
    clear hjn
    go_wp2
    go_ret
    exact ⟨-1, rfl, HR.out, rfl⟩
  ·obtain rfl : o = 13 := by omega
   have HR : Hid (BehOk (rs.map ROp.pl) at_ ((k + 1 : Nat) : Int)) := aside (.inr ⟨k + 1, rfl, by omega, by rw [HLm.out]; omega, fun st => by rw [HIf.out, HKf.out, fl_end HOp.out HPl.out]⟩)
   clear HOp HPl h12 e12
   go_wp2
   go_ret
   exact ⟨_, rfl, by first | exact HR.out | (rw [← Int.natCast_succ]; exact HR.out), rfl⟩
 ·obtain rfl : k = n := by omega
  have g2 : ((k : Int) < (k : Int)) = False := by simp
  have HR : Hid (BehOk (rs.map ROp.pl) at_ (-1)) := aside (.inl ⟨rfl, fun st => by rw [HIf.out, HKf.out, fl_len (by rw [HLm.out]; exact Nat.le_refl _), if_neg (by simp)]⟩)
  clear hkn
  go_wp2
  go_ret
  exact ⟨-1, rfl, HR.out, rfl⟩
set_option maxHeartbeats 8000000 in
set_option maxRecDepth 100000 in
theorem ended_step (rs : List ROp) (A : Option Addr) (n c : Nat) (hn : n ≤ 1000) (w : World) (h : RSl w w.heap.size A n rs) (at_ : Nat) (ha : at_ ≤ n)
  (ih : ∀ k, at_ < k → k ≤ n → EndC rs A n c w k) : EndC rs A n c w at_ := by
 have hl := h.len
 have hlm : (rs.map ROp.pl).length = n := by rw [List.length_map, hl]
 have HLm := aside hlm
 have HL := aside hl
 have H := aside h
 have IH := aside ih
 have HA : Hid (∀ r, EndOk (rs.map ROp.pl) at_ r → EndOk (rs.map ROp.pl) at_ r) := aside fun _ h => h
 clear h hl hlm ih
 unfold EndC
 go_enter Tryz.func44, Tryz.ntmps44
 go_wp2_with fail
 go_loopw [1] (fun v1 wr => ∃ k : Nat, at_ ≤ k ∧ k ≤ n ∧ v1 = .int .i64 k ∧ wr = w ∧ Hid (∀ r, EndOk (rs.map ROp.pl) k r → EndOk (rs.map ROp.pl) at_ r)) (fun v1 _ => n - (Go.RowKit.intOf v1).toNat)
 case atStart => exact ⟨at_, Nat.le_refl _, ha, rfl, rfl, HA⟩
 case round =>
  clear HA
  obtain ⟨k, hk0, hk, rfl, hwr, HA⟩ := hrel
  subst hwr
  by_cases hkn : k < n
  ·have k0 : (k : Int) < (n : Int) := by omega
   have g0 : (0 : Int) ≤ (k : Int) := by omega
   obtain ⟨b, of, e, hb, p0, -, -⟩ := H.out.at_ hkn
   have hop := op_get (rs := rs) (k := k) (by have := HL.out; omega)
   have HOp := aside hop
   have hpl : (rs.getD k noR).pl.1 = (rs.getD k noR).op := rfl
   have HPl := aside hpl
   obtain ⟨o, ho⟩ : ∃ o, o = (rs.getD k noR).op := ⟨_, rfl⟩
   have HO := aside ho
   rw [← ho] at p0 HPl
   subst e
   clear hop hpl hb ho
   by_cases e12 : o = 12
   ·subst e12
    have HR : Hid (EndOk (rs.map ROp.pl) at_ (k : Int)) := aside (HA.out _ (end_here (by rw [HLm.out]; exact hk) (fun o ho => by rw [HOp.out] at ho; injection ho with ho; rw [← ho]; exact .inl HPl.out)))
    clear HOp HPl HO
    go_wp2
    go_ret
    exact ⟨_, rfl, HR.out, rfl⟩
   have n12 : (o != 12) = true := by simp [e12]
   by_cases e13 : o = 13
   ·subst e13
    have HR : Hid (EndOk (rs.map ROp.pl) at_ (k : Int)) := aside (HA.out _ (end_here (by rw [HLm.out]; exact hk) (fun o ho => by rw [HOp.out] at ho; injection ho with ho; rw [← ho]; exact .inr HPl.out)))
    clear HOp HPl HO
    go_wp2
    go_ret
    exact ⟨_, rfl, HR.out, rfl⟩
   have n13 : (o != 13) = true := by simp [e13]
   by_cases e11 : o = 11
   ·subst e11
    have HBe := aside (behind_step rs (some ⟨b, of, none⟩) n c hn wr H.out k hkn HO.out.symm (fun j h1 h2 => IH.out j (by omega) h2))
    clear HOp HPl HO n12 n13 e12 e13
    go_wp2_with fail
    refine HBe.out.mono ?_
    rintro e w2 ⟨r, rfl, hr, hw2⟩
    rw [hw2]
    clear hw2 w2 HBe
    rcases hr with ⟨rfl, hr⟩ | ⟨j, rfl, hj1, hj2, hjf⟩
    ·have HR : Hid (EndOk (rs.map ROp.pl) at_ (-1)) := aside (HA.out _ (.inl ⟨rfl, hr⟩))
     clear hr
     go_wp2
     go_ret
     exact ⟨-1, rfl, HR.out, rfl⟩
    ·rw [HLm.out] at hj2
     have HA2 : Hid (∀ r, EndOk (rs.map ROp.pl) j r → EndOk (rs.map ROp.pl) at_ r) := aside fun r h => HA.out r (end_next (by omega) hjf h)
     have q0 : (0 : Int) ≤ (j : Int) := by omega
     have q1 : ((j : Int) < 0) = False := by simp only [eq_iff_iff, iff_false]; omega
     clear hjf
     go_wp2
     exact ⟨⟨j, by omega, hj2, rfl, by trivial, HA2⟩, by simp [Go.RowKit.intOf]; omega⟩
   ·have n11 : (o != 11) = true := by simp [e11]
    have HA2 : Hid (∀ r, EndOk (rs.map ROp.pl) (k + 1) r → EndOk (rs.map ROp.pl) at_ r) := aside fun r h => HA.out r (end_next (by omega) (fl_no HOp.out (by rw [HPl.out]; exact e11) ⟨by rw [HPl.out]; exact e12, by rw [HPl.out]; exact e13⟩) h)
    clear HOp HPl HO e11 e12 e13
    go_wp2
    exact ⟨⟨k + 1, by omega, by omega, by go_num, by trivial, HA2⟩, by simp [Go.RowKit.intOf]; omega⟩
  ·obtain rfl : n = k := by omega
   have i0 : ((n : Int) < (n : Int)) = False := by simp
   have HR : Hid (EndOk (rs.map ROp.pl) at_ (n : Int)) := aside (HA.out _ (end_here (by rw [HLm.out]; exact Nat.le_refl _) (fun o ho => absurd ho (by rw [List.getElem?_eq_none (by rw [HLm.out]; exact Nat.le_refl _)]; simp))))
   clear hkn
   go_wp2
   go_ret
   exact ⟨_, rfl, HR.out, rfl⟩
theorem ended_any (rs : List ROp) (A : Option Addr) (n c : Nat) (hn : n ≤ 1000) (w : World) (h : RSl w w.heap.size A n rs) : ∀ (m at_ : Nat), n - at_ ≤ m → at_ ≤ n → EndC rs A n c w at_
 | 0, at_, hm, ha => ended_step rs A n c hn w h at_ ha (fun k h1 h2 => absurd h1 (by omega))
 | m + 1, at_, hm, ha => ended_step rs A n c hn w h at_ ha (fun k h1 h2 => ended_any rs A n c hn w h m k (by omega) h2)
end Go.Proofs.YtbpabjhcjffkmaaGreatDoor
