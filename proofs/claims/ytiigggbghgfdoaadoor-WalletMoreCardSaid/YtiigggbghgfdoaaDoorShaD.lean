/- Digests: what the digest of bytes is: plain words. Conditions: named in each theorem. -/
import Derived.Test.YtiigggbghgfdoaaDoorShaC
namespace Go.Proofs.YtiigggbghgfdoaaDoor
open Go.RowKit Go.ChangeShapes Go.WideShapes Go.ChangeAt

/-- What so many blocks make of a state. -/
def blocksN (s bs : List Nat) : Nat → List Nat
  | 0 => s
  | k + 1 => blockL (blocksN s bs k) (bs.drop (64 * k))
theorem blockL_len {s : List Nat} (bs : List Nat) (h : s.length = 8) : (blockL s bs).length = 8 := by
  unfold blockL
  rw [sumN_len, roundsN_len bs h]
theorem blockL_small {s : List Nat} (bs : List Nat) (h : Small s) : Small (blockL s bs) := sumN_small (roundsN_small bs h 64) 8
theorem blocksN_len {s : List Nat} (bs : List Nat) (h : s.length = 8) : ∀ k, (blocksN s bs k).length = 8
  | 0 => h
  | k + 1 => blockL_len _ (blocksN_len bs h k)
theorem blocksN_small {s : List Nat} (bs : List Nat) (h : Small s) : ∀ k, Small (blocksN s bs k)
  | 0 => h
  | k + 1 => blockL_small _ (blocksN_small bs h k)
/-- So many zeros behind r bytes and one. -/
def zerosOf (r : Nat) : Nat := (119 - r % 64) % 64
theorem zeros_mod (r : Nat) : (r + 1 + zerosOf r) % 64 = 56 := by unfold zerosOf; omega
theorem zeros_not {r k : Nat} (h : k < zerosOf r) : (r + 1 + k) % 64 ≠ 56 := by unfold zerosOf at h; omega
/-- The length, in bits, in eight bytes. -/
def longL (n : Nat) : List Nat := [n * 8 % 18446744073709551616 / 72057594037927936 % 256, n * 8 % 18446744073709551616 / 281474976710656 % 256, n * 8 % 18446744073709551616 / 1099511627776 % 256, n * 8 % 18446744073709551616 / 4294967296 % 256,
  n * 8 % 18446744073709551616 / 16777216 % 256, n * 8 % 18446744073709551616 / 65536 % 256, n * 8 % 18446744073709551616 / 256 % 256, n * 8 % 18446744073709551616 % 256]
/-- What stands behind all whole blocks. -/
def tailL (rest : List Nat) (n : Nat) : List Nat := rest ++ [128] ++ List.replicate (zerosOf rest.length) 0 ++ longL n
theorem tailL_len (rest : List Nat) (n : Nat) : (tailL rest n).length = rest.length + 1 + zerosOf rest.length + 8 := by simp [tailL, longL]; omega
theorem tailL_whole (rest : List Nat) (n : Nat) : (tailL rest n).length % 64 = 0 := by
  rw [tailL_len]
  have := zeros_mod rest.length
  omega
/-- A state's bytes. -/
def outL (s : List Nat) : List Nat := s.flatMap fun x => [x / 16777216 % 256, x / 65536 % 256, x / 256 % 256, x % 256]
/-- The digest of bytes. -/
def shaL (bs : List Nat) : List Nat :=
  outL (blocksN (blocksN startL bs (bs.length / 64)) (tailL (bs.drop (64 * (bs.length / 64))) bs.length) ((tailL (bs.drop (64 * (bs.length / 64))) bs.length).length / 64))
theorem start_small : Small startL := fun i => getD_lt (l := startL) (by decide) (by decide) i
theorem shaL_len (bs : List Nat) : (shaL bs).length = 32 := by
  unfold shaL
  have h : ∀ s : List Nat, (outL s).length = s.length * 4 := by
    intro s
    induction s with
    | nil => rfl
    | cons x r ih =>
      unfold outL at ih ⊢
      rw [List.flatMap_cons, List.length_append, ih, List.length_cons]
      simp
      omega
  rw [h, blocksN_len _ (blocksN_len _ rfl _)]
/-- The block, its words one by one. -/
theorem block_eight {v0 v1 v2 v3 v4 v5 v6 v7 : Nat} (bs : List Nat) (A : Option Addr) (n c : Nat) (w : World) (h : YSl w w.heap.size A n bs) (hn : 64 ≤ n) (hby : ∀ x ∈ bs, x < 256) (hsm : Small [v0, v1, v2, v3, v4, v5, v6, v7]) (hg : RoundsAt w) :
    Calls Tryd.prog 58 #[.agg #[.int .u32 (v0 : Int), .int .u32 (v1 : Int), .int .u32 (v2 : Int), .int .u32 (v3 : Int), .int .u32 (v4 : Int), .int .u32 (v5 : Int), .int .u32 (v6 : Int), .int .u32 (v7 : Int)], .slice A n c] w (fun e w' => ∃ u0 u1 u2 u3 u4 u5 u6 u7 : Nat, blockL [v0, v1, v2, v3, v4, v5, v6, v7] bs = [u0, u1, u2, u3, u4, u5, u6, u7] ∧ e = .returned (.agg #[.int .u32 (u0 : Int), .int .u32 (u1 : Int), .int .u32 (u2 : Int), .int .u32 (u3 : Int), .int .u32 (u4 : Int), .int .u32 (u5 : Int), .int .u32 (u6 : Int), .int .u32 (u7 : Int)]) ∧ Below w.heap.size w w') := by
  have hb := block_any [v0, v1, v2, v3, v4, v5, v6, v7] rfl bs A n c w h hn hby hsm hg
  refine (show Calls _ _ #[.agg (rowW [v0, v1, v2, v3, v4, v5, v6, v7]), .slice A n c] _ _ from hb).mono ?_
  rintro e w' ⟨rfl, hb⟩
  obtain ⟨u0, u1, u2, u3, u4, u5, u6, u7, hu⟩ := eight (blockL_len (s := [v0, v1, v2, v3, v4, v5, v6, v7]) bs rfl)
  exact ⟨u0, u1, u2, u3, u4, u5, u6, u7, hu, by rw [hu]; rfl, hb⟩
end Go.Proofs.YtiigggbghgfdoaaDoor
