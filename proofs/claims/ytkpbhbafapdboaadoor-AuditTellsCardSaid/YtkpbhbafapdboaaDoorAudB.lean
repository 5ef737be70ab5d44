/- Half of a number: the greatest power of 2 below it: the walks. Conditions: named in each theorem. -/
import Derived.Test.YtkpbhbafapdboaaDoorAudA
namespace Go.Proofs.YtkpbhbafapdboaaDoor
open Go.RowKit Go.ChangeShapes Go.WideShapes Go.ChangeAt

instance deci_all {p : Prop} {q : p → Prop} [hp : Decidable p] [hq : ∀ h, Decidable (q h)] : Decidable (∀ h, q h) :=
  if h : p then decidable_of_iff (q h) ⟨fun hq _ => hq, fun f => f h⟩ else isTrue fun h' => absurd h' h
set_option maxRecDepth 100000 in
theorem len64_any (k : Nat) (hk : k < 256) (w : World) : Calls Tryd.prog 51 #[.int .u64 k] w (fun e w' => e = .returned (.int .i64 (Nat.log2 (2 * k + 1) : Nat)) ∧ w' = w) := by
  have e1 : ((4294967296 : Int) ≤ (k : Int)) = False := by simp only [eq_iff_iff, iff_false]; omega
  have e2 : ((65536 : Int) ≤ (k : Int)) = False := by simp only [eq_iff_iff, iff_false]; omega
  have e3 : ((256 : Int) ≤ (k : Int)) = False := by simp only [eq_iff_iff, iff_false]; omega
  have e4 : (k : Int) < 256 := by omega
  have e5 : IntKind.u8.wrap (k : Int) = k := by rw [IntKind.wrap_u8]; omega
  go_enter Tryd.func51, Tryd.ntmps51
  go_wp2_with fail
  go_ret
  refine ⟨?_, rfl⟩
  refine congrArg (fun z => Ending.returned (.int .i64 z)) ?_
  clear e1 e2 e3 e5
  revert e4
  revert hk
  revert k
  decide +kernel
/-- How many bits. -/
def lenB (k : Nat) : Nat := Nat.log2 (2 * k + 1)
/-- The greatest power of 2 below a number. -/
def halfN (n : Nat) : Nat := 2 ^ (lenB (n - 1) - 1)
theorem lenB_all : ∀ k, k < 256 → 1 ≤ k → 1 ≤ lenB k ∧ lenB k ≤ 8 ∧ 2 ^ (lenB k - 1) ≤ k ∧ k < 2 ^ lenB k := by decide +kernel
theorem lenB_pos {k : Nat} (h : 1 ≤ k) (hk : k < 256) : 1 ≤ lenB k ∧ lenB k ≤ 8 ∧ 2 ^ (lenB k - 1) ≤ k ∧ k < 2 ^ lenB k := lenB_all k hk h
theorem half_lt {n : Nat} (h : 2 ≤ n) (hn : n ≤ 256) : 1 ≤ halfN n ∧ halfN n < n := by
  have := lenB_pos (k := n - 1) (by omega) (by omega)
  unfold halfN
  exact ⟨Nat.one_le_two_pow, by omega⟩
theorem len_any (k : Nat) (hk : k < 256) (w : World) : Calls Tryd.prog 39 #[.int .u64 k] w (fun e w' => e = .returned (.int .i64 (lenB k : Nat)) ∧ w' = w) := by
  go_enter Tryd.func39, Tryd.ntmps39
  go_wp2_with (first | (go_at_call 51; refine (len64_any k hk _).mono ?_; rintro e w' ⟨rfl, rfl⟩) | fail)
  go_ret
  exact ⟨rfl, rfl⟩
theorem half_any (n : Nat) (h : 2 ≤ n) (hn : n ≤ 256) (w : World) : Calls Tryd.prog 27 #[.int .i64 n] w (fun e w' => e = .returned (.int .i64 (halfN n : Nat)) ∧ w' = w) := by
  obtain ⟨k, hk⟩ : ∃ k, k = n - 1 := ⟨_, rfl⟩
  have hp := lenB_pos (k := k) (by omega) (by omega)
  have hh : halfN n = 2 ^ (lenB k - 1) := by rw [hk]; rfl
  have hL := len_any k (by omega)
  have HL := aside hL
  rw [hh]
  generalize lenB k = l at hp hL HL
  obtain ⟨p1, p2, -, -⟩ := hp
  have g1 : (n : Int) - 1 = (k : Int) := by omega
  have hk8 : k < 256 := by omega
  obtain ⟨q, hq⟩ : ∃ q, q = l - 1 := ⟨_, rfl⟩
  have g2 : (l : Int) - 1 = (q : Int) := by omega
  have hq7 : q ≤ 7 := by omega
  rw [← hq]
  clear hL hk hh hq
  go_enter Tryd.func27, Tryd.ntmps27
  go_wp2_with (first | (go_at_call 39; refine (HL.out _).mono ?_; rintro e w' ⟨rfl, rfl⟩) | fail)
  go_ret
  refine ⟨?_, rfl⟩
  have h2 : ∀ q : Nat, q ≤ 7 → wrap64 ((2 : Int) ^ q) = ((2 ^ q : Nat) : Int) := by
    intro q hq
    rcases (show q = 0 ∨ q = 1 ∨ q = 2 ∨ q = 3 ∨ q = 4 ∨ q = 5 ∨ q = 6 ∨ q = 7 by omega) with rfl | rfl | rfl | rfl | rfl | rfl | rfl | rfl <;> (unfold wrap64; decide)
  exact congrArg (fun z => Ending.returned (.int .i64 z)) (h2 q hq7)
end Go.Proofs.YtkpbhbafapdboaaDoor
