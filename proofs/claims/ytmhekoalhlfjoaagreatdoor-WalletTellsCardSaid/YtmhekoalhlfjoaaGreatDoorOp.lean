/- lock.op: the walk. Conditions: named in each theorem. -/
import Derived.Test.YtmhekoalhlfjoaaGreatDoorCmpB
namespace Go.Proofs.YtmhekoalhlfjoaaGreatDoor
open Go.RowKit Go.ChangeShapes Go.WideShapes Go.ChangeAt

def errP (k : Int) : Value := if k = 0 then .nilIface else .iface 32 (.int .i64 k)
theorem errP_no {k : Int} (h : k ≠ 0) : errP k = .iface 32 (.int .i64 k) := by unfold errP; rw [if_neg h]
/-- What is wrong with an op. -/
def opQ (op n : Int) (len : Nat) : Int :=
  if op < 1 ∨ 14 < op then 1 else if (n ≠ 0 ∧ op ≠ 9 ∧ op ≠ 10) ∨ (0 < len ∧ op ≠ 1) then 1 else if 300 < len then 4 else if (op = 9 ∧ (n < 1 ∨ 9 < n)) ∨ (op = 10 ∧ (n < 0 ∨ 1073741824 < n)) then 2 else 0
set_option maxHeartbeats 20000000 in
set_option maxRecDepth 100000 in
theorem op_any (op n : Int) (A : Option Addr) (len c : Nat) (w : World) :
    Calls Tryz.prog 94 #[.agg #[.int .i64 op, .int .i64 n, .slice A len c]] w (fun e w' => e = .returned (errP (opQ op n len)) ∧ Below w.heap.size w w') := by
  obtain ⟨Q, hQ⟩ : ∃ Q, Q = opQ op n len := ⟨_, rfl⟩
  rw [← hQ]
  by_cases h1 : op < 1
  ·
    obtain rfl : Q = 1 := by rw [hQ]; unfold opQ; (repeat' split) <;> omega
    clear hQ
    go_enter Tryz.func94, Tryz.ntmps94
    go_wp2
    go_ret
    exact ⟨rfl, (Below.refl _ _).alloc (Nat.le_refl _) _⟩
  by_cases h2 : 14 < op
  ·
    obtain rfl : Q = 1 := by rw [hQ]; unfold opQ; (repeat' split) <;> omega
    clear hQ
    go_enter Tryz.func94, Tryz.ntmps94
    go_wp2
    go_ret
    exact ⟨rfl, (Below.refl _ _).alloc (Nat.le_refl _) _⟩
  have g1 : 1 ≤ op := by omega
  have g2 : op ≤ 14 := by omega
  by_cases o1 : op = 1
  · subst o1
    by_cases hn : n = 0
    · have hnb : (n != 0) = false := by simp [hn]
      by_cases hl : len = 0
      · have hlz : ((0 : Int) < (len : Int)) = False := by simp only [eq_iff_iff, iff_false]; omega
        have hlz3 : (len : Int) ≤ 300 := by omega
        obtain rfl : Q = 0 := by rw [hQ]; unfold opQ; (repeat' split) <;> omega
        clear hQ
        go_enter Tryz.func94, Tryz.ntmps94
        go_wp2
        go_ret
        exact ⟨rfl, (Below.refl _ _).alloc (Nat.le_refl _) _⟩
      · have hlz : (0 : Int) < (len : Int) := by omega
        by_cases hl3 : 300 < len
        · have hlz3 : (300 : Int) < (len : Int) := by omega
          obtain rfl : Q = 4 := by rw [hQ]; unfold opQ; (repeat' split) <;> omega
          clear hQ
          go_enter Tryz.func94, Tryz.ntmps94
          go_wp2
          go_ret
          exact ⟨rfl, (Below.refl _ _).alloc (Nat.le_refl _) _⟩
        · have hlz3 : (len : Int) ≤ 300 := by omega
          obtain rfl : Q = 0 := by rw [hQ]; unfold opQ; (repeat' split) <;> omega
          clear hQ
          go_enter Tryz.func94, Tryz.ntmps94
          go_wp2
          go_ret
          exact ⟨rfl, (Below.refl _ _).alloc (Nat.le_refl _) _⟩
    · have hnb : (n != 0) = true := by simp [hn]
      obtain rfl : Q = 1 := by rw [hQ]; unfold opQ; (repeat' split) <;> omega
      clear hQ
      go_enter Tryz.func94, Tryz.ntmps94
      go_wp2
      go_ret
      exact ⟨rfl, (Below.refl _ _).alloc (Nat.le_refl _) _⟩
  by_cases o9 : op = 9
  · subst o9
    by_cases hl : len = 0
    · have hlz : ((0 : Int) < (len : Int)) = False := by simp only [eq_iff_iff, iff_false]; omega
      have hlz3 : (len : Int) ≤ 300 := by omega
      by_cases hn : n = 0
      · have hnb : (n != 0) = false := by simp [hn]
        subst hn
        obtain rfl : Q = 2 := by rw [hQ]; unfold opQ; (repeat' split) <;> omega
        clear hQ
        go_enter Tryz.func94, Tryz.ntmps94
        go_wp2
        go_ret
        exact ⟨rfl, (Below.refl _ _).alloc (Nat.le_refl _) _⟩
      · have hnb : (n != 0) = true := by simp [hn]
        by_cases hlo : n < 1
        ·
          obtain rfl : Q = 2 := by rw [hQ]; unfold opQ; (repeat' split) <;> omega
          clear hQ
          go_enter Tryz.func94, Tryz.ntmps94
          go_wp2
          go_ret
          exact ⟨rfl, (Below.refl _ _).alloc (Nat.le_refl _) _⟩
        by_cases hhi : 9 < n
        ·
          have hlo2 : 1 ≤ n := by omega
          obtain rfl : Q = 2 := by rw [hQ]; unfold opQ; (repeat' split) <;> omega
          clear hQ
          go_enter Tryz.func94, Tryz.ntmps94
          go_wp2
          go_ret
          exact ⟨rfl, (Below.refl _ _).alloc (Nat.le_refl _) _⟩
        have hlo2 : 1 ≤ n := by omega
        have hhi2 : n ≤ 9 := by omega
        obtain rfl : Q = 0 := by rw [hQ]; unfold opQ; (repeat' split) <;> omega
        clear hQ
        go_enter Tryz.func94, Tryz.ntmps94
        go_wp2
        go_ret
        exact ⟨rfl, (Below.refl _ _).alloc (Nat.le_refl _) _⟩
    · have hlz : (0 : Int) < (len : Int) := by omega
      by_cases hn : n = 0
      · have hnb : (n != 0) = false := by simp [hn]
        obtain rfl : Q = 1 := by rw [hQ]; unfold opQ; (repeat' split) <;> omega
        clear hQ
        go_enter Tryz.func94, Tryz.ntmps94
        go_wp2
        go_ret
        exact ⟨rfl, (Below.refl _ _).alloc (Nat.le_refl _) _⟩
      · have hnb : (n != 0) = true := by simp [hn]
        obtain rfl : Q = 1 := by rw [hQ]; unfold opQ; (repeat' split) <;> omega
        clear hQ
        go_enter Tryz.func94, Tryz.ntmps94
        go_wp2
        go_ret
        exact ⟨rfl, (Below.refl _ _).alloc (Nat.le_refl _) _⟩
  by_cases o10 : op = 10
  · subst o10
    by_cases hl : len = 0
    · have hlz : ((0 : Int) < (len : Int)) = False := by simp only [eq_iff_iff, iff_false]; omega
      have hlz3 : (len : Int) ≤ 300 := by omega
      by_cases hn : n = 0
      · have hnb : (n != 0) = false := by simp [hn]
        subst hn
        obtain rfl : Q = 0 := by rw [hQ]; unfold opQ; (repeat' split) <;> omega
        clear hQ
        go_enter Tryz.func94, Tryz.ntmps94
        go_wp2
        go_ret
        exact ⟨rfl, (Below.refl _ _).alloc (Nat.le_refl _) _⟩
      · have hnb : (n != 0) = true := by simp [hn]
        by_cases hlo : n < 0
        ·
          obtain rfl : Q = 2 := by rw [hQ]; unfold opQ; (repeat' split) <;> omega
          clear hQ
          go_enter Tryz.func94, Tryz.ntmps94
          go_wp2
          go_ret
          exact ⟨rfl, (Below.refl _ _).alloc (Nat.le_refl _) _⟩
        by_cases hhi : 1073741824 < n
        ·
          have hlo2 : 0 ≤ n := by omega
          obtain rfl : Q = 2 := by rw [hQ]; unfold opQ; (repeat' split) <;> omega
          clear hQ
          go_enter Tryz.func94, Tryz.ntmps94
          go_wp2
          go_ret
          exact ⟨rfl, (Below.refl _ _).alloc (Nat.le_refl _) _⟩
        have hlo2 : 0 ≤ n := by omega
        have hhi2 : n ≤ 1073741824 := by omega
        obtain rfl : Q = 0 := by rw [hQ]; unfold opQ; (repeat' split) <;> omega
        clear hQ
        go_enter Tryz.func94, Tryz.ntmps94
        go_wp2
        go_ret
        exact ⟨rfl, (Below.refl _ _).alloc (Nat.le_refl _) _⟩
    · have hlz : (0 : Int) < (len : Int) := by omega
      by_cases hn : n = 0
      · have hnb : (n != 0) = false := by simp [hn]
        obtain rfl : Q = 1 := by rw [hQ]; unfold opQ; (repeat' split) <;> omega
        clear hQ
        go_enter Tryz.func94, Tryz.ntmps94
        go_wp2
        go_ret
        exact ⟨rfl, (Below.refl _ _).alloc (Nat.le_refl _) _⟩
      · have hnb : (n != 0) = true := by simp [hn]
        obtain rfl : Q = 1 := by rw [hQ]; unfold opQ; (repeat' split) <;> omega
        clear hQ
        go_enter Tryz.func94, Tryz.ntmps94
        go_wp2
        go_ret
        exact ⟨rfl, (Below.refl _ _).alloc (Nat.le_refl _) _⟩
  have b1 : (op != 1) = true := by simp [o1]
  have b9 : (op != 9) = true := by simp [o9]
  have b10 : (op != 10) = true := by simp [o10]
  have c9 : (op == 9) = false := by simp [o9]
  have c10 : (op == 10) = false := by simp [o10]
  by_cases hn : n = 0
  · have hnb : (n != 0) = false := by simp [hn]
    by_cases hl : len = 0
    · have hlz : ((0 : Int) < (len : Int)) = False := by simp only [eq_iff_iff, iff_false]; omega
      have hlz3 : (len : Int) ≤ 300 := by omega
      obtain rfl : Q = 0 := by rw [hQ]; unfold opQ; (repeat' split) <;> omega
      clear hQ
      go_enter Tryz.func94, Tryz.ntmps94
      go_wp2
      go_ret
      exact ⟨rfl, (Below.refl _ _).alloc (Nat.le_refl _) _⟩
    · have hlz : (0 : Int) < (len : Int) := by omega
      obtain rfl : Q = 1 := by rw [hQ]; unfold opQ; (repeat' split) <;> omega
      clear hQ
      go_enter Tryz.func94, Tryz.ntmps94
      go_wp2
      go_ret
      exact ⟨rfl, (Below.refl _ _).alloc (Nat.le_refl _) _⟩
  · have hnb : (n != 0) = true := by simp [hn]
    obtain rfl : Q = 1 := by rw [hQ]; unfold opQ; (repeat' split) <;> omega
    clear hQ
    go_enter Tryz.func94, Tryz.ntmps94
    go_wp2
    go_ret
    exact ⟨rfl, (Below.refl _ _).alloc (Nat.le_refl _) _⟩
end Go.Proofs.YtmhekoalhlfjoaaGreatDoor
