/- Digests with a key: plain laws. No program in sight. Conditions: named in each theorem. -/
import Derived.Test.YtmhekoalhlfjoaaGreatDoorShaG
namespace Go.Proofs.YtmhekoalhlfjoaaGreatDoor

theorem getD_app {a m : List Nat} {i : Nat} (h : i < a.length) : (a ++ m).getD i 0 = a.getD i 0 := by
  simp only [List.getD_eq_getElem?_getD, List.getElem?_append_left h]
theorem firstW_app {a : List Nat} (m : List Nat) (h : a.length = 64) : ∀ k, k ≤ 16 → firstW (a ++ m) k = firstW a k
  | 0, _ => rfl
  | k + 1, hk => by
    unfold firstW
    rw [firstW_app m h k (by omega), getD_app (by omega), getD_app (by omega), getD_app (by omega), getD_app (by omega)]
theorem moreW_app {a : List Nat} (m : List Nat) (h : a.length = 64) : ∀ k, moreW (a ++ m) k = moreW a k
  | 0 => firstW_app m h 16 (Nat.le_refl _)
  | k + 1 => by
    unfold moreW
    rw [moreW_app m h k]
theorem roundsN_app {s a : List Nat} (m : List Nat) (h : a.length = 64) : ∀ k, roundsN s (a ++ m) k = roundsN s a k
  | 0 => rfl
  | k + 1 => by
    unfold roundsN
    rw [roundsN_app m h k, moreW_app m h 48]
theorem blockL_app {s a : List Nat} (m : List Nat) (h : a.length = 64) : blockL s (a ++ m) = blockL s a := by
  unfold blockL
  rw [roundsN_app m h]
theorem blocksN_app {s a : List Nat} (m : List Nat) (h : a.length = 64) : ∀ k, blocksN s (a ++ m) (k + 1) = blocksN (blocksN s a 1) m k
  | 0 => by
    show blockL s ((a ++ m).drop (64 * 0)) = blockL s (a.drop (64 * 0))
    rw [Nat.mul_zero, List.drop_zero, List.drop_zero]
    exact blockL_app m h
  | k + 1 => by
    show blockL (blocksN s (a ++ m) (k + 1)) ((a ++ m).drop (64 * (k + 1))) = blockL (blocksN (blocksN s a 1) m k) (m.drop (64 * k))
    rw [blocksN_app m h k]
    congr 1
    rw [List.drop_append, List.drop_of_length_le (by omega), h, List.nil_append]
    congr 1
/-- The digest of a block and what comes behind it. -/
theorem sha_app {a m : List Nat} (h : a.length = 64) : shaL (a ++ m) = outL (blocksN (blocksN (blocksN startL a 1) m (m.length / 64)) (tailL (m.drop (64 * (m.length / 64))) (64 + m.length)) ((tailL (m.drop (64 * (m.length / 64))) (64 + m.length)).length / 64)) := by
  unfold shaL
  have hl : (a ++ m).length = 64 + m.length := by rw [List.length_append, h]
  have hd : (a ++ m).length / 64 = m.length / 64 + 1 := by rw [hl]; omega
  have hr : (a ++ m).drop (64 * ((a ++ m).length / 64)) = m.drop (64 * (m.length / 64)) := by
    rw [hd, List.drop_append, List.drop_of_length_le (by omega), h, List.nil_append]
    congr 1
  rw [hr, hd, blocksN_app m h, hl]
/-- A key, so many bytes of it, each with a byte more. -/
def padN (x : Nat) (k : List Nat) (i : Nat) : List Nat := (List.range 64).map fun j => if j < i then k.getD j 0 ^^^ x else 0
theorem padN_len (x : Nat) (k : List Nat) (i : Nat) : (padN x k i).length = 64 := by simp [padN]
theorem padN_zero (x : Nat) (k : List Nat) : padN x k 0 = List.replicate 64 0 := by
  refine List.eq_replicate_iff.2 ⟨padN_len x k 0, fun b hb => ?_⟩
  obtain ⟨j, _, rfl⟩ := List.mem_map.1 hb
  rfl
theorem padN_at {x : Nat} {k : List Nat} {i j : Nat} (h : j < 64) : (padN x k i)[j]? = some (if j < i then k.getD j 0 ^^^ x else 0) := by
  unfold padN
  rw [List.getElem?_map, List.getElem?_range h]
  rfl
theorem padN_set {x : Nat} {k : List Nat} {i : Nat} (h : i < 64) : (padN x k i).set i (k.getD i 0 ^^^ x) = padN x k (i + 1) := by
  refine List.ext_getElem? fun j => ?_
  by_cases hj : j < 64
  · rw [padN_at hj, List.getElem?_set, padN_len]
    by_cases hij : i = j
    · subst hij
      rw [if_pos rfl, if_pos h, if_pos (Nat.lt_succ_self _)]
    · rw [if_neg hij, padN_at hj]
      by_cases h1 : j < i
      · rw [if_pos h1, if_pos (by omega)]
      · rw [if_neg h1, if_neg (by omega)]
  · rw [List.getElem?_eq_none (by rw [List.length_set, padN_len]; omega), List.getElem?_eq_none (by rw [padN_len]; omega)]
theorem xor_byte {a b : Nat} (ha : a < 256) (hb : b < 256) : a ^^^ b < 256 := Nat.xor_lt_two_pow (n := 8) ha hb
theorem padN_small {x : Nat} {k : List Nat} (hx : x < 256) (hk : ∀ y ∈ k, y < 256) (i : Nat) : ∀ y ∈ padN x k i, y < 256 := by
  intro y hy
  obtain ⟨j, _, rfl⟩ := List.mem_map.1 hy
  split
  · exact xor_byte (getD_lt hk (by decide) j) hx
  · decide
/-- A digest with a key. -/
def macL (k m : List Nat) : List Nat := shaL (padN 92 k 64 ++ shaL (padN 54 k 64 ++ m))
theorem macL_len (k m : List Nat) : (macL k m).length = 32 := shaL_len _
theorem outL_small : ∀ s : List Nat, ∀ x ∈ outL s, x < 256 := by
  intro s x hx
  unfold outL at hx
  obtain ⟨y, _, hy⟩ := List.mem_flatMap.1 hx
  simp only [List.mem_cons, List.not_mem_nil, or_false] at hy
  rcases hy with rfl | rfl | rfl | rfl <;> exact Nat.mod_lt _ (by decide)
theorem shaL_small (bs : List Nat) : ∀ x ∈ shaL bs, x < 256 := outL_small _
theorem macL_small (k m : List Nat) : ∀ x ∈ macL k m, x < 256 := shaL_small _
end Go.Proofs.YtmhekoalhlfjoaaGreatDoor
