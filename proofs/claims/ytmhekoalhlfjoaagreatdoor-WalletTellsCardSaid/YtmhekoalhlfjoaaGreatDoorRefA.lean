/- The reference's digests: turned words, numbers of bytes: the walk. Conditions: named in each theorem. -/
import Derived.Test.YtmhekoalhlfjoaaGreatDoorShaG
namespace Go.Proofs.YtmhekoalhlfjoaaGreatDoor
open Go.RowKit Go.ChangeShapes Go.WideShapes Go.ChangeAt

theorem i64_and_nat (a b : Nat) (ha : a < 9223372036854775808) (hb : b < 9223372036854775808) : bits .and .i64 (a : Int) (b : Int) = ((a &&& b : Nat) : Int) := by
  have hx : a &&& b < 2 ^ 63 := Nat.and_lt_two_pow _ (by omega)
  show IntKind.i64.wrap ((BitVec.ofInt 64 (a : Int) &&& BitVec.ofInt 64 (b : Int)).toNat : Int) = _
  rw [BitVec.toNat_and, ofInt_u64 a (by omega), ofInt_u64 b (by omega), IntKind.wrap_i64]
  omega
theorem i64_or_nat (a b : Nat) (ha : a < 9223372036854775808) (hb : b < 9223372036854775808) : bits .or .i64 (a : Int) (b : Int) = ((a ||| b : Nat) : Int) := by
  have hx : a ||| b < 2 ^ 63 := Nat.or_lt_two_pow (by omega) (by omega)
  show IntKind.i64.wrap ((BitVec.ofInt 64 (a : Int) ||| BitVec.ofInt 64 (b : Int)).toNat : Int) = _
  rw [BitVec.toNat_or, ofInt_u64 a (by omega), ofInt_u64 b (by omega), IntKind.wrap_i64]
  omega
theorem i64_xor_nat (a b : Nat) (ha : a < 9223372036854775808) (hb : b < 9223372036854775808) : bits .xor .i64 (a : Int) (b : Int) = ((a ^^^ b : Nat) : Int) := by
  have hx : a ^^^ b < 2 ^ 63 := Nat.xor_lt_two_pow (by omega) (by omega)
  show IntKind.i64.wrap ((BitVec.ofInt 64 (a : Int) ^^^ BitVec.ofInt 64 (b : Int)).toNat : Int) = _
  rw [BitVec.toNat_xor, ofInt_u64 a (by omega), ofInt_u64 b (by omega), IntKind.wrap_i64]
  omega
theorem nat_mask32 (x : Nat) : x &&& 4294967295 = x % 4294967296 := Nat.and_two_pow_sub_one_eq_mod x 32
theorem i64_mask32 (a : Nat) (ha : a < 9223372036854775808) : bits .and .i64 (a : Int) 4294967295 = ((a % 4294967296 : Nat) : Int) := by
  rw [← nat_mask32, ← i64_and_nat a 4294967295 ha (by decide)]
  rfl

set_option maxHeartbeats 1000000 in
theorem turn_any (x n : Nat) (hx : x < 4294967296) (hn : 2 ≤ n ∧ n ≤ 31) (w : World) :
    Calls Tryz.prog 89 #[.int .i64 x, .int .i64 n] w (fun e w' => e = .returned (.int .i64 (rot x n)) ∧ ∃ m, w' = w.drewN m) := by
  have hp : x * 2 ^ (32 - n) < 9223372036854775808 := by
    have h1 : 2 ^ (32 - n) ≤ 2 ^ 30 := Nat.pow_le_pow_right (by decide) (by omega)
    have h2 : x * 2 ^ (32 - n) ≤ 4294967295 * 2 ^ 30 := Nat.mul_le_mul (by omega) h1
    omega
  have hd := Nat.div_le_self x (2 ^ n)
  have hr : rot x n = (x / 2 ^ n) ||| (x * 2 ^ (32 - n) % 4294967296) := by unfold rot; rw [Nat.or_comm]
  have e4 : (x : Int) / 2 ^ n = ((x / 2 ^ n : Nat) : Int) := by simp
  have e2' : (x : Int) * 2 ^ (32 - n) = ((x * 2 ^ (32 - n) : Nat) : Int) := by simp
  obtain ⟨y, hy⟩ : ∃ y, y = x * 2 ^ (32 - n) := ⟨_, rfl⟩
  obtain ⟨z, hz⟩ : ∃ z, z = x / 2 ^ n := ⟨_, rfl⟩
  rw [← hz] at e4 hd hr
  rw [← hy] at e2' hp hr
  have e1 : IntKind.i64.wrap (32 - (n : Int)) = ((32 - n : Nat) : Int) := by rw [IntKind.wrap_i64]; omega
  have e2 : IntKind.i64.wrap ((x : Int) * 2 ^ (32 - n)) = (y : Int) := by
    rw [e2', IntKind.wrap_i64]
    omega
  obtain ⟨u, hu⟩ : ∃ u, u = y % 4294967296 := ⟨_, rfl⟩
  have e3 : bits .and .i64 (y : Int) 4294967295 = (u : Int) := by rw [i64_mask32 _ hp, hu]
  have e5 : bits .or .i64 (z : Int) (u : Int) = ((rot x n : Nat) : Int) := by rw [i64_or_nat z u (by omega) (by omega), hr, hu]
  clear e2' hy hz hu hr hp hd
  obtain ⟨k, hk⟩ : ∃ k, k = 32 - n := ⟨_, rfl⟩
  rw [← hk] at e1 e2
  have k1 : k ≤ 30 := by omega
  clear hk
  go_enter Tryz.func89, Tryz.ntmps89
  go_wp2_with fail
  go_quiet (fail)
  go_wp2_with fail
  go_ret
  refine ⟨?_, _, rfl⟩
  rfl
theorem turn_at (n : Nat) {x : Nat} {m : Int} (hx : x < 4294967296) (hm : m = (n : Int)) (hn : 2 ≤ n ∧ n ≤ 31) (w : World) :
    Calls Tryz.prog 89 #[.int .i64 x, .int .i64 m] w (fun e w' => e = .returned (.int .i64 (rot x n)) ∧ ∃ m, w' = w.drewN m) := by
  subst hm
  exact turn_any x n hx hn w
end Go.Proofs.YtmhekoalhlfjoaaGreatDoor
