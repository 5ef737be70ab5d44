/- money.Check, net.Check. Conditions: named in each theorem. -/
import Derived.Test.YtippdfmmlhpkfaaDoorRec
import Derived.Test.YtippdfmmlhpkfaaDoorNetL
namespace Go.Proofs.YtippdfmmlhpkfaaDoor
open Go.RowKit Go.ChangeShapes Go.WideShapes Go.ChangeAt

/-- A debt: from, to, amount. -/
abbrev Db := Int × Int × Int
def dbV (d : Db) : List Value := [.int .i64 d.1, .int .i64 d.2.1, .int .i64 d.2.2]
theorem dbV_len (d : Db) : (dbV d).length = 3 := rfl
abbrev DSl := FSl dbV 3
/-- A pile: who, amount. -/
def plV (p : Ln) : List Value := [.int .i64 p.1, .int .i64 p.2]
theorem plV_len (p : Ln) : (plV p).length = 2 := rfl
abbrev PSl := FSl plV 2
theorem DSl.at3 {w : World} {B n : Nat} {A : Option Addr} {xs : List Db} (hl : DSl w B A n xs) {k : Nat} (hk : k < n) :
    ∃ b off, A = some ⟨b, off, none⟩ ∧ b < B ∧ w.cell? ⟨b, off + k * 3, none⟩ = some (.int .i64 (xs.getD k (0, 0, 0)).1) ∧ w.cell? ⟨b, off + k * 3 + 1, none⟩ = some (.int .i64 (xs.getD k (0, 0, 0)).2.1) ∧ w.cell? ⟨b, off + k * 3 + 2, none⟩ = some (.int .i64 (xs.getD k (0, 0, 0)).2.2) := by
  obtain ⟨b, off, e, hb, hc⟩ := FSl.at_ dbV_len (by decide) (0, 0, 0) hl hk
  exact ⟨b, off, e, hb, hc 0 _ rfl, hc 1 _ rfl, hc 2 _ rfl⟩
theorem PSl.at2 {w : World} {B n : Nat} {A : Option Addr} {xs : List Ln} (hl : PSl w B A n xs) {k : Nat} (hk : k < n) :
    ∃ b off, A = some ⟨b, off, none⟩ ∧ b < B ∧ w.cell? ⟨b, off + k * 2, none⟩ = some (.int .i64 (xs.getD k (0, 0)).1) ∧ w.cell? ⟨b, off + k * 2 + 1, none⟩ = some (.int .i64 (xs.getD k (0, 0)).2) := by
  obtain ⟨b, off, e, hb, hc⟩ := FSl.at_ plV_len (by decide) (0, 0) hl hk
  exact ⟨b, off, e, hb, hc 0 _ rfl, hc 1 _ rfl⟩
theorem DSl.len3 {w : World} {B n : Nat} {A : Option Addr} {xs : List Db} (hl : DSl w B A n xs) : xs.length = n := FSl.len dbV_len (by decide) hl
theorem PSl.len2 {w : World} {B n : Nat} {A : Option Addr} {xs : List Ln} (hl : PSl w B A n xs) : xs.length = n := FSl.len plV_len (by decide) hl

def Money (n : Int) : Prop := 0 ≤ n ∧ n ≤ 1125899906842624
def errV (q : Int) : Value := if q = 0 then .nilIface else .iface 29 (.int .i64 q)
theorem errV_no {q : Int} (h : q ≠ 0) : errV q = .iface 29 (.int .i64 q) := by unfold errV; rw [if_neg h]
set_option maxRecDepth 100000 in
theorem money_ok (m : Int) (hm : Money m) (w : World) : Calls Tryd.prog 15 #[.int .i64 m] w (fun e w' => e = .returned .nilIface ∧ w' = w) := by
  obtain ⟨h0, h1⟩ := hm
  go_enter Tryd.func15, Tryd.ntmps15
  go_wp2
  go_ret
  exact ⟨rfl, rfl⟩
set_option maxRecDepth 100000 in
theorem money_bad (m : Int) (hm : ¬ Money m) (w : World) : Calls Tryd.prog 15 #[.int .i64 m] w (fun e w' => e = .returned (.iface 29 (.int .i64 2)) ∧ w' = w) := by
  have hway : m < 0 ∨ (0 ≤ m ∧ 1125899906842624 < m) := by unfold Money at hm; omega
  clear hm
  rcases hway with h | ⟨h, h'⟩
  all_goals go_enter Tryd.func15, Tryd.ntmps15
  all_goals go_wp2
  all_goals go_ret
  all_goals exact ⟨rfl, rfl⟩
def DbOk (d : Db) : Prop := 0 ≤ d.1 ∧ 0 ≤ d.2.1 ∧ Money d.2.2
open Classical in
/-- What is wrong with debts. -/
noncomputable def dErr (ds : List Db) : Int := if 100 < ds.length then 4 else if ∀ d ∈ ds, DbOk d then 0 else 2
theorem dErr_full {ds : List Db} (h : 100 < ds.length) : dErr ds = 4 := by unfold dErr; rw [if_pos h]
theorem dErr_ok {ds : List Db} (h : ¬ 100 < ds.length) (h2 : ∀ d ∈ ds, DbOk d) : dErr ds = 0 := by unfold dErr; rw [if_neg h, if_pos h2]
theorem dErr_bad {ds : List Db} (h : ¬ 100 < ds.length) {d : Db} (hd : d ∈ ds) (h2 : ¬ DbOk d) : dErr ds = 2 := by unfold dErr; rw [if_neg h, if_neg fun h3 => h2 (h3 d hd)]
theorem dErr_zero {ds : List Db} (h : dErr ds = 0) : ds.length ≤ 100 ∧ ∀ d ∈ ds, DbOk d := by
  unfold dErr at h
  by_cases h1 : 100 < ds.length
  · rw [if_pos h1] at h; cases h
  · rw [if_neg h1] at h
    by_cases h2 : ∀ d ∈ ds, DbOk d
    · exact ⟨by omega, h2⟩
    · rw [if_neg h2] at h; cases h
theorem ifn {a b : Int} (h : b = a) : Ending.returned (.iface 29 (.int .i64 a)) = .returned (.iface 29 (.int .i64 b)) := by rw [h]
/-- What Check leaves. -/
def CheckPost (ds : List Db) (w : World) (e : Ending) (w' : World) : Prop := ((dErr ds = 0 ∧ e = .returned .nilIface) ∨ (dErr ds ≠ 0 ∧ e = .returned (.iface 29 (.int .i64 (dErr ds))))) ∧ Below w.heap.size w w'

set_option maxHeartbeats 4000000 in
set_option maxRecDepth 100000 in
theorem check_any (ds : List Db) (A : Option Addr) (n c : Nat) (w : World) (h : DSl w w.heap.size A n ds) :
    Calls Tryd.prog 6 #[.slice A n c] w (CheckPost ds w) := by
  have hlen := DSl.len3 h
  by_cases n1 : 100 < n
  · have e1 : (100 : Int) < (n : Int) := by omega
    go_enter Tryd.func6, Tryd.ntmps6
    go_wp2
    go_ret
    have hd := dErr_full (ds := ds) (by omega)
    exact ⟨.inr ⟨by rw [hd]; decide, ifn hd⟩, Below.refl _ _⟩
  have e1 : ((100 : Int) < (n : Int)) = False := by simp only [eq_iff_iff, iff_false]; omega
  go_enter Tryd.func6, Tryd.ntmps6
  go_wp2_with fail
  go_loopw [12] (fun v12 wr => ∃ (k : Nat), k ≤ n ∧ v12 = .int .i64 k ∧ Hid (∀ d ∈ ds.take k, DbOk d) ∧ Below w.heap.size w wr) (fun v12 _ => n - (Go.RowKit.intOf v12).toNat)
  case atStart => exact ⟨0, Nat.zero_le _, rfl, aside (by simp), Below.refl _ _⟩
  case round =>
    obtain ⟨k, hk, rfl, HA, hb⟩ := hrel
    have hbz := hb.size
    by_cases k1 : k < n
    · obtain ⟨b, off, rfl, hlt, c0, c1, c2⟩ := DSl.at3 h k1
      have HT := aside (take_next (ls := ds) (k := k) (0, 0, 0) (by omega))
      have HM := aside (getD_mem (ls := ds) (k := k) (0, 0, 0) (by omega))
      generalize ds.getD k (0, 0, 0) = p at c0 c1 c2 HT HM
      obtain ⟨f, t, a⟩ := p
      simp only [] at c0 c1 c2
      have d0 := (hb.cell (p := ⟨b, off + k * 3, none⟩) hlt).trans c0
      have d1 := (hb.cell (p := ⟨b, off + k * 3 + 1, none⟩) hlt).trans c1
      have d2 := (hb.cell (p := ⟨b, off + k * 3 + 2, none⟩) hlt).trans c2
      have l0 : b < wr.heap.size := by omega
      have i1 : (k : Int) < (n : Int) := by omega
      have i4 : (0 : Int) ≤ (k : Int) := by omega
      have HBL := aside hb
      clear c0 c1 c2 hb
      by_cases hf : f < 0
      · have hd := dErr_bad (ds := ds) (by omega) HM.out (fun h => by have h1 := h.1; simp only at h1; omega)
        have HD := aside hd
        clear hd
        go_wp2
        go_ret
        exact ⟨.inr ⟨by rw [HD.out]; decide, ifn HD.out⟩, HBL.out.alloc hbz _⟩
      have hf' : (f < 0) = False := by simp only [eq_iff_iff, iff_false]; omega
      have hf0 : 0 ≤ f := by omega
      by_cases ht : t < 0
      · have hd := dErr_bad (ds := ds) (by omega) HM.out (fun h => by have h1 := h.2.1; simp only at h1; omega)
        have HD := aside hd
        clear hd hf
        go_wp2
        go_ret
        exact ⟨.inr ⟨by rw [HD.out]; decide, ifn HD.out⟩, HBL.out.alloc hbz _⟩
      have ht' : (t < 0) = False := by simp only [eq_iff_iff, iff_false]; omega
      have ht0 : 0 ≤ t := by omega
      clear hf ht
      by_cases ha : Money a
      · have HW := aside ha
        have HOk : Hid (DbOk (f, t, a)) := aside ⟨hf0, ht0, ha⟩
        clear ha
        go_wp2_with (first | (go_at_call 15; refine (money_ok a HW.out _).mono ?_; rintro e w' ⟨rfl, rfl⟩) | fail)
        refine ⟨⟨k + 1, by omega, by go_num, aside ?_, HBL.out.alloc hbz _⟩, by simp [Go.RowKit.intOf]; omega⟩
        intro d hd
        rw [HT.out] at hd
        rcases List.mem_append.1 hd with hd | hd
        · exact HA.out d hd
        · rw [List.mem_singleton] at hd
          rw [hd]
          exact HOk.out
      · have hd := dErr_bad (ds := ds) (by omega) HM.out (fun h => ha h.2.2)
        have HD := aside hd
        have HW := aside ha
        clear hd ha
        go_wp2_with (first | (go_at_call 15; refine (money_bad a HW.out _).mono ?_; rintro e w' ⟨rfl, rfl⟩) | fail)
        go_ret
        exact ⟨.inr ⟨by rw [HD.out]; decide, ifn HD.out⟩, HBL.out.alloc hbz _⟩
    · have i1 : ((k : Int) < (n : Int)) = False := by simp only [eq_iff_iff, iff_false]; omega
      obtain rfl : k = n := by omega
      have HBL := aside hb
      rw [List.take_of_length_le (by omega)] at HA
      clear hb
      go_wp2
      go_ret
      exact ⟨.inl ⟨dErr_ok (by omega) HA.out, rfl⟩, HBL.out⟩
end Go.Proofs.YtippdfmmlhpkfaaDoor
