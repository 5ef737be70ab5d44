/- Digests: words, turned words: the walk of what stands lowest. Conditions: named in each theorem. -/
import Derived.Test.YtbpabjhcjffkmaaGreatDoorFrame
import Derived.Laws.BitsAllLaws
namespace Go.Proofs.YtbpabjhcjffkmaaGreatDoor
open Go.RowKit Go.ChangeShapes Go.WideShapes Go.ChangeAt

/-- A word. -/
def W (x : Nat) : Value := .int .u32 (x : Int)
/-- Turned to the right. -/
def rot (x n : Nat) : Nat := (x * 2 ^ (32 - n) % 4294967296) ||| x / 2 ^ n
theorem or_lt {x y : Nat} (hx : x < 4294967296) (hy : y < 4294967296) : x ||| y < 4294967296 := Nat.or_lt_two_pow (n := 32) hx hy
theorem xor_lt {x y : Nat} (hx : x < 4294967296) (hy : y < 4294967296) : x ^^^ y < 4294967296 := Nat.xor_lt_two_pow (n := 32) hx hy
theorem and_lt {x y : Nat} (hx : x < 4294967296) : x &&& y < 4294967296 := Nat.lt_of_le_of_lt Nat.and_le_left hx
theorem rot_lt {x n : Nat} (hx : x < 4294967296) : rot x n < 4294967296 := or_lt (Nat.mod_lt _ (by decide)) (Nat.lt_of_le_of_lt (Nat.div_le_self _ _) hx)
set_option maxHeartbeats 1000000 in
theorem rot_any (x n : Nat) (hx : x < 4294967296) (hn : 1 ≤ n ∧ n ≤ 31) (w : World) :
  Calls Tryz.prog 152 #[.int .u32 x, .int .i64 (-(n : Int))] w (fun e w' => e = .returned (.int .u32 (rot x n)) ∧ w' = w) := by
 have e1 : IntKind.u64.wrap (-(n : Int)) = 18446744073709551616 - n := by simp [IntKind.wrap, IntKind.bits, IntKind.signed]; omega
 have e2 : bits .and .u64 (18446744073709551616 - (n : Int)) 31 = ((32 - n : Nat) : Int) := by
  rw [u64_and _ _ (by omega) (by omega) (by omega) (by omega), show (31 : Int).toNat = 31 from rfl, nat_mask5]
  omega
 have e3 : IntKind.u64.wrap (32 - ((32 - n : Nat) : Int)) = n := by simp [IntKind.wrap, IntKind.bits, IntKind.signed]; omega
 go_enter Tryz.func152, Tryz.ntmps152
 go_wp2
 go_ret
 refine ⟨?_, rfl⟩
 show Ending.returned (.int .u32 (bits .or .u32 ((x : Int) * 2 ^ (32 - n) % 4294967296) ((x : Int) / 2 ^ n))) = _
 have h1 : (x : Int) * 2 ^ (32 - n) % 4294967296 = ((x * 2 ^ (32 - n) % 4294967296 : Nat) : Int) := by simp
 have h2 : (x : Int) / 2 ^ n = ((x / 2 ^ n : Nat) : Int) := by simp
 rw [h1, h2, u32_or_nat _ _ (Nat.mod_lt _ (by decide)) (Nat.lt_of_le_of_lt (Nat.div_le_self _ _) hx)]
 rfl
theorem rot_at (n : Nat) {x : Nat} {m : Int} (hx : x < 4294967296) (hm : m = -(n : Int)) (hn : 1 ≤ n ∧ n ≤ 31) (w : World) :
  Calls Tryz.prog 152 #[.int .u32 x, .int .i64 m] w (fun e w' => e = .returned (.int .u32 (rot x n)) ∧ w' = w) := by
 subst hm
 exact rot_any x n hx hn w
/-- Turned thrice. -/
def rot3 (x a b c : Nat) : Nat := rot x a ^^^ rot x b ^^^ rot x c
theorem rot3_lt {x a b c : Nat} (hx : x < 4294967296) : rot3 x a b c < 4294967296 := xor_lt (xor_lt (rot_lt hx) (rot_lt hx)) (rot_lt hx)
set_option maxHeartbeats 1000000 in
theorem turned_any (x a b c : Nat) (hx : x < 4294967296) (ha : 1 ≤ a ∧ a ≤ 31) (hb : 1 ≤ b ∧ b ≤ 31) (hc : 1 ≤ c ∧ c ≤ 31) (w : World) :
  Calls Tryz.prog 153 #[.int .u32 x, .int .i64 a, .int .i64 b, .int .i64 c] w (fun e w' => e = .returned (.int .u32 (rot3 x a b c)) ∧ w' = w) := by
 have e1 : IntKind.i64.wrap (-(a : Int)) = -(a : Int) := by rw [IntKind.wrap_i64]; omega
 have e2 : IntKind.i64.wrap (-(b : Int)) = -(b : Int) := by rw [IntKind.wrap_i64]; omega
 have e3 : IntKind.i64.wrap (-(c : Int)) = -(c : Int) := by rw [IntKind.wrap_i64]; omega
 go_enter Tryz.func153, Tryz.ntmps153
 go_wp2_with fail
 refine (rot_any x a hx ha _).mono ?_
 rintro e w1 ⟨rfl, rfl⟩
 go_wp2_with fail
 refine (rot_any x b hx hb _).mono ?_
 rintro e w2 ⟨rfl, rfl⟩
 go_wp2_with fail
 refine (rot_any x c hx hc _).mono ?_
 rintro e w3 ⟨rfl, rfl⟩
 go_wp2
 go_ret
 refine ⟨?_, rfl⟩
 show Ending.returned (.int .u32 (bits .xor .u32 (bits .xor .u32 (rot x a : Int) (rot x b : Int)) (rot x c : Int))) = _
 rw [u32_xor_nat _ _ (rot_lt hx) (rot_lt hx), u32_xor_nat _ _ (xor_lt (rot_lt hx) (rot_lt hx)) (rot_lt hx)]
 rfl
theorem turned_at (a b c : Nat) {x : Nat} {a' b' c' : Int} (hx : x < 4294967296) (ea : a' = (a : Int)) (eb : b' = (b : Int)) (ec : c' = (c : Int)) (ha : 1 ≤ a ∧ a ≤ 31) (hb : 1 ≤ b ∧ b ≤ 31) (hc : 1 ≤ c ∧ c ≤ 31) (w : World) :
  Calls Tryz.prog 153 #[.int .u32 x, .int .i64 a', .int .i64 b', .int .i64 c'] w (fun e w' => e = .returned (.int .u32 (rot3 x a b c)) ∧ w' = w) := by
 subst ea eb ec
 exact turned_any x a b c hx ha hb hc w
end Go.Proofs.YtbpabjhcjffkmaaGreatDoor
